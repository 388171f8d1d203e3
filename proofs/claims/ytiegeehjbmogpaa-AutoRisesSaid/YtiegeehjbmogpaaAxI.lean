/-
  AX: a world at its whole, as a heap of the evaluator's; arguments that are slices of numbers.
-/
import Derived.Test.YtiegeehjbmogpaaAxH
import Derived.ProofKit
import Derived.OpenShut
import Derived.ChangeSlices
import Derived.OpenVars
import Derived.ChangeStays
import Derived.ChangeBook
set_option linter.unusedSimpArgs false
set_option linter.unusedVariables false
namespace Go.AX
noncomputable section
open Go Go.RowKit

/-- A value of the machine's, as it is. -/
def absV (n : Nat) : Value → Option AV
  | .bool b => some (.bool b)
  | .int k m => some (.int k m)
  | .string s => some (.str (bytesOf s))
  | .pointer none => some .nilptr
  | .pointer (some ⟨B, o, none⟩) => if B < n then some (.ptr B o) else none
  | .slice none 0 0 => some .nilslice
  | .slice (some ⟨B, o, none⟩) len c => if B < n then some (.slice B o len (.exact c)) else none
  | .map none => some .nilmap
  | _ => none

def absPhi (n : Nat) : Phi := fun b => if b < n then some ⟨b, 0, 0⟩ else none

theorem absV_rel {n : Nat} {v : Value} {a : AV} (h : absV n v = some a) : VR (absPhi n) a v ∧ a.one = true := by
  unfold absV at h
  split at h
  all_goals first
    | (cases h; done)
    | (cases h; exact ⟨by simp, rfl⟩)
    | (split at h
       · rename_i hb
         cases h
         refine ⟨?_, rfl⟩
         first
         | (rw [VR_ptr]; exact ⟨⟨_, 0, 0⟩, by unfold absPhi; rw [if_pos hb], by simp⟩)
         | (rw [VR_sliceEx]; exact ⟨⟨_, 0, 0⟩, by unfold absPhi; rw [if_pos hb], by simp⟩)
       · cases h)

/-- A tree of what there is. -/
def fillO {α : Type} (t : T α) (k : Nat) : List (Option α) → T α
  | [] => t
  | x :: l => fillO (t.set k x) (k + 1) l

theorem fillO_get {α : Type} : ∀ (l : List (Option α)) (t : T α) (k j : Nat), (fillO t k l).get j = if k ≤ j ∧ j < k + l.length then (l[j - k]?).join else t.get j
  | [], t, k, j => by simp only [fillO, List.length_nil]; rw [if_neg (by omega)]
  | x :: l, t, k, j => by
    simp only [fillO, fillO_get l, T.get_set, List.length_cons]
    by_cases e : j = k
    · subst e; rw [if_neg (by omega), if_pos rfl, if_pos (by omega)]; simp
    · by_cases q : k + 1 ≤ j ∧ j < k + 1 + l.length
      · rw [if_pos q, if_pos (by omega), show j - k = (j - (k + 1)) + 1 by omega]; simp
      · rw [if_neg q, if_neg e, if_neg (by omega)]

theorem fillO_get0 {α : Type} (l : List (Option α)) (j : Nat) : (fillO (.e : T α) 0 l).get j = (l[j]?).join := by
  rw [fillO_get]
  by_cases q : j < l.length
  · rw [if_pos ⟨Nat.zero_le _, by omega⟩]; simp
  · rw [if_neg (by omega), List.getElem?_eq_none (by omega)]; rfl

def absObj (n : Nat) : Obj → Option AObj
  | .cells c _ _ => some (.cells c.size (fillO .e 0 (c.toList.map (absV n))) ⟨0, 0⟩ true)
  | _ => none

def absH (w : World) : H := ⟨fillO .e 0 (w.heap.toList.map (absObj w.heap.size)), w.heap.size, 0⟩

theorem absH_get (w : World) (b : Nat) : (absH w).t.get b = (w.heap[b]?).bind (absObj w.heap.size) := by
  unfold absH
  simp only [fillO_get0, List.getElem?_map, Array.getElem?_toList]
  cases w.heap[b]? <;> rfl

theorem absH_rel (w : World) : HR ⟨w.heap.size, fun _ => none⟩ (absPhi w.heap.size) (absH w) w := by
  have hlt : ∀ {b : Nat} {o : AObj}, (absH w).t.get b = some o → b < w.heap.size := fun {b o} hb => by
    rw [absH_get] at hb
    cases hx : w.heap[b]? with
    | none => rw [hx] at hb; cases hb
    | some x => exact (Array.getElem?_eq_some_iff.1 hx).1
  refine ⟨fun b o hb _ => ?_, fun b o b' o' L L' hb hb' h1 h2 e => ?_, fun b hb => ?_, fun b hb => absurd rfl hb, fun g hg => absurd hg (Nat.not_lt_zero _)⟩
  · have hl := hlt hb
    refine ⟨⟨b, 0, 0⟩, by unfold absPhi; rw [if_pos hl], ?_⟩
    rw [absH_get] at hb
    cases hx : w.heap[b]? with
    | none => rw [hx] at hb; cases hb
    | some x =>
      rw [hx] at hb
      cases x with
      | cells c t frz =>
        simp only [Option.bind_some, absObj] at hb
        cases hb
        refine ⟨c, t, frz, hx, by simp, fun i v hv => ?_, (fun h => by cases h), (fun h => absurd rfl h), (fun _ => rfl), (fun h => absurd rfl h), (fun _ h => by cases h)⟩
        rw [fillO_get0, List.getElem?_map, Array.getElem?_toList] at hv
        cases hc : c[i]? with
        | none => rw [hc] at hv; cases hv
        | some cv =>
          rw [hc] at hv
          have hv' : absV w.heap.size cv = some v := hv
          obtain ⟨h1, h2⟩ := absV_rel hv'
          exact ⟨(Array.getElem?_eq_some_iff.1 hc).1, h2, cv, by rw [Nat.zero_add]; exact hc, h1⟩
      | _ => cases hb
  · unfold absPhi at h1 h2
    rw [if_pos (hlt hb)] at h1
    rw [if_pos (hlt hb')] at h2
    cases h1; cases h2; exact e
  · unfold absPhi; rw [if_neg (by exact Nat.not_lt.2 hb)]

theorem absH_nx (w : World) : (absH w).nx = w.heap.size := rfl

/-- A cell of the world's. -/
theorem absH_cell {w : World} {b o : Nat} {v : Value} {a : AV} (hc : w.cell? ⟨b, o, none⟩ = some v) (ha : absV w.heap.size v = some a) : cellAt (absH w) b o = some a := by
  unfold World.cell? at hc
  unfold cellAt
  rw [absH_get]
  simp only at hc
  cases hx : w.heap[b]? with
  | none => rw [hx] at hc; cases hc
  | some x =>
    rw [hx] at hc
    cases x with
    | cells c t frz =>
      simp only [Option.bind_some, absObj, fillO_get0, List.getElem?_map, Array.getElem?_toList]
      have : c[o]? = some v := by simpa using hc
      rw [this]; exact ha
    | _ => simp at hc

/-! ## the arguments -/

theorem trodAll_below {P : Program} {K : Type} {enc : TypeId × Value → K} {W W' : World} (hl : laidOutB P = true) (hb : Below W.heap.size W W') : ∀ {ts : List TypeId} {vs : List Value} {ds : List (DataW K)} {ps : List MemPlace},
    (∀ t, t ∈ ts → P.readableRec t = true ∧ t < P.types.size) → DataW.TrodAll enc P W 0 (fun _ => true) true ts vs ds ps → (∀ p, p ∈ ps → p.block < W.heap.size) → ∀ sp : Nat → Bool, (∀ p, p ∈ ps → sp p.block = true) → DataW.TrodAll enc P W' 0 sp true ts vs ds ps
  | [], [], [], _, _, h, _, _, _ => h
  | t :: ts, v :: vs, d :: ds, ps, ht, h, hlt, sp, hsp => by
    obtain ⟨p, q, ⟨fuel, h1⟩, h2, rfl⟩ := h
    have ht' := ht t List.mem_cons_self
    refine ⟨p, q, ⟨fuel, DataW.trod_stays (kids_book hl ht'.1) (book_sized ht'.1) (fun h => by cases h) ⟨ht'.2, book_self t⟩ h1 (fun x hx => hb.same (hlt x (List.mem_append_left _ hx))) (fun x hx => hsp x (List.mem_append_left _ hx))⟩,
      trodAll_below hl hb (fun t h => ht t (List.mem_cons_of_mem _ h)) h2 (fun x hx => hlt x (List.mem_append_right _ hx)) sp (fun x hx => hsp x (List.mem_append_right _ hx)), rfl⟩
  | [], [], _ :: _, _, _, h, _, _, _ => h.elim
  | [], _ :: _, _, _, _, h, _, _, _ => h.elim
  | _ :: _, [], _, _, _, h, _, _, _ => h.elim
  | _ :: _, _ :: _, [], _, _, h, _, _, _ => h.elim


theorem wf_nat {k : IntKind} (hk : k.signed = false) {z : Int} (h : (Lit.int k z).wf = true) : ∃ n : Nat, z = Int.ofNat n ∧ n < modF k := by
  cases k <;> simp [IntKind.signed] at hk <;> simp [Lit.wf, IntKind.min, IntKind.max, IntKind.signed, IntKind.bits] at h <;>
    exact ⟨z.toNat, (Int.toNat_of_nonneg h.1).symm, by simp only [modF]; omega⟩

theorem wf_i64 {z : Int} (h : (Lit.int .i64 z).wf = true) : -9223372036854775808 ≤ z ∧ z ≤ 9223372036854775807 := by
  simpa [Lit.wf, IntKind.min, IntKind.max, IntKind.signed, IntKind.bits] using h

/-- A slice of numbers that came in. -/
theorem ints_arg {P : Program} {K : Type} {enc : TypeId × Value → K} {w : World} {t e : TypeId} {k : IntKind} (ht : P.underlying t = some (.slice e)) (he : P.underlying e = some (.int k)) (hc : P.cellsOf e = 1)
    {r : Go.Reach} {b0 : Nat} {v : Value} (hval : Value.okWide P w r b0 t v) {d : DataW K} {ps : List MemPlace} (hd : DataW.Trod enc P w 0 (fun _ => true) true t v d ps) :
    ∃ (av : AV) (zs : List Int), VR (absPhi w.heap.size) av v ∧ SliceAt (absH w) av zs.length (zs.map (.int k)) ∧ (∀ z, z ∈ zs → (Lit.int k z).wf = true) ∧ zs.length ≤ maxLen := by
  obtain ⟨fuel, hf⟩ := hd
  obtain ⟨a0, len0, cap0, rfl⟩ := WideShapes.okWide_slice ht hval
  rcases ChangeShapes.open_ints ht he hc hf with ⟨h1, _⟩ | ⟨a, len, cap, zs, h1, _, h2, h2m, h3, _, h4, h5⟩
  · simp [Value.cells] at h1
    obtain ⟨rfl, rfl, rfl⟩ := h1
    exact ⟨.nilslice, [], by simp, .none, (fun z hz => absurd hz List.not_mem_nil), by simp⟩
  · simp [Value.cells] at h1
    obtain ⟨rfl, rfl, rfl⟩ := h1
    simp only [if_true] at h3
    by_cases hz : zs.length = 0
    · have hl : len0 = 0 := by omega
      subst hl
      exact ⟨.slice0, [], by simp, .zero, (fun z hz => absurd hz List.not_mem_nil), by simp⟩
    · have hcell := fun i (hi : i < zs.length) => h4 i hi
      have h0 := hcell 0 (by omega)
      have ha : a.spot = none ∧ a.block < w.heap.size := by
        have hb := World.block_lt_of_cell? w _ h0
        have : (a.add 0) = a := rfl
        rw [this] at h0 hb
        refine ⟨?_, hb⟩
        unfold World.cell? at h0
        cases hx : w.heap[a.block]? with
        | none => rw [hx] at h0; cases h0
        | some x =>
          rw [hx] at h0
          cases x with
          | cells c t f =>
            simp only at h0
            cases hs : a.spot with
            | none => rfl
            | some q => rw [hs] at h0; simp at h0
          | _ => cases h0
      obtain ⟨B, o, sp⟩ := a
      obtain ⟨rfl, hB⟩ := ha
      simp only at hB
      refine ⟨.slice B o len0 (.exact cap0), zs.take len0, ?_, ?_, fun z hz => h5 z (List.mem_of_mem_take hz), ?_⟩
      · rw [VR_sliceEx]; exact ⟨⟨B, 0, 0⟩, by unfold absPhi; rw [if_pos hB], by simp⟩
      · rw [List.length_take, Nat.min_eq_left (by omega)]
        refine .cell B o len0 _ _ hB (fun i hi => ?_)
        simp only [List.length_map, List.length_take] at hi
        have := hcell i (by omega)
        have e1 : (⟨B, o, none⟩ : Addr).add i = ⟨B, o + i, none⟩ := by
          unfold Addr.add
          split
          · rename_i q; subst q; rfl
          · rfl
        rw [e1] at this
        rw [absH_cell this rfl, List.getElem?_map, List.getElem?_take, if_pos (by omega)]
        rw [List.getD, List.getElem?_eq_getElem (by omega)]; rfl
      · rw [List.length_take]; omega

theorem nats_of {k : IntKind} (hk : k.signed = false) : ∀ {zs : List Int}, (∀ z, z ∈ zs → (Lit.int k z).wf = true) → ∃ ns : List Nat, zs.map (AV.int k) = ns.map (fun n => .int k (.ofNat n)) ∧ ns.length = zs.length ∧ ∀ n, n ∈ ns → n < modF k
  | [], _ => ⟨[], rfl, rfl, fun n hn => absurd hn List.not_mem_nil⟩
  | z :: zs, h => by
    obtain ⟨n, rfl, hn⟩ := wf_nat hk (h z List.mem_cons_self)
    obtain ⟨ns, e, hl, hb⟩ := nats_of hk (fun z hz => h z (List.mem_cons_of_mem _ hz))
    exact ⟨n :: ns, by simp only [List.map_cons, e], by simp only [List.length_cons, hl], fun m hm => by
      rcases List.mem_cons.1 hm with rfl | hm
      · exact hn
      · exact hb m hm⟩

/-- A slice of numbers without signs. -/
theorem nats_arg {P : Program} {K : Type} {enc : TypeId × Value → K} {w : World} {t e : TypeId} {k : IntKind} (hk : k.signed = false) (ht : P.underlying t = some (.slice e)) (he : P.underlying e = some (.int k)) (hc : P.cellsOf e = 1)
    {r : Go.Reach} {b0 : Nat} {v : Value} (hval : Value.okWide P w r b0 t v) {d : DataW K} {ps : List MemPlace} (hd : DataW.Trod enc P w 0 (fun _ => true) true t v d ps) :
    ∃ (av : AV) (ns : List Nat), VR (absPhi w.heap.size) av v ∧ SliceAt (absH w) av ns.length (ns.map fun n => .int k (.ofNat n)) ∧ (∀ n, n ∈ ns → n < modF k) ∧ ns.length ≤ maxLen := by
  obtain ⟨av, zs, h1, h2, h3, h4⟩ := ints_arg ht he hc hval hd
  obtain ⟨ns, e, hl, hb⟩ := nats_of hk h3
  exact ⟨av, ns, h1, by rw [hl, ← e]; exact h2, hb, by rw [hl]; exact h4⟩

end
end Go.AX


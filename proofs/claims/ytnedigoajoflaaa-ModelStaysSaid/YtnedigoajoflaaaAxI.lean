/-
  AX: a world at its whole, as a heap of the evaluator's; arguments that are slices of numbers.
-/
import Derived.Test.YtnedigoajoflaaaAxH
import Derived.ProofKit
import Derived.OpenShut
import Derived.ChangeSlices
import Derived.OpenVars
import Derived.ChangeStays
import Derived.ChangeBook
import Derived.ChangeArms
import Derived.Deep.Slices
set_option linter.unusedSimpArgs false
set_option linter.unusedVariables false
namespace Go.AX
noncomputable section
open Go Go.RowKit
def absV (n : Nat) : Value → Option AV
  | .bool b => some (.bool b)
  | .int k m => some (.int k m)
  | .string s => some (.str (bytesOf s))
  | .pointer none => some .nilptr
  | .pointer (some ⟨B, o, none⟩) => if B < n then some (.ptr B o) else none
  | .slice none 0 0 => some .nilslice
  | .slice (some ⟨B, o, none⟩) len c => if B < n then some (.slice B o len (.exact c)) else none
  | .map none => some .nilmap
  | _ => none
def absPhi (n : Nat) : Phi := fun b => if b < n then some ⟨b, 0, 0⟩ else none
theorem absV_rel {n : Nat} {v : Value} {a : AV} (h : absV n v = some a) : VR (absPhi n) a v ∧ a.one = true := by
  unfold absV at h
  split at h
  all_goals first
    | (cases h; done)
    | (cases h; exact ⟨by simp, rfl⟩)
    | (split at h
       · rename_i hb
         cases h
         refine ⟨?_, rfl⟩
         first
         | (rw [VR_ptr]; exact ⟨⟨_, 0, 0⟩, by unfold absPhi; rw [if_pos hb], by simp⟩)
         | (rw [VR_sliceEx]; exact ⟨⟨_, 0, 0⟩, by unfold absPhi; rw [if_pos hb], by simp⟩)
       · cases h)
def fillO {α : Type} (t : T α) (k : Nat) : List (Option α) → T α
  | [] => t
  | x :: l => fillO (t.set k x) (k + 1) l
theorem fillO_get {α : Type} : ∀ (l : List (Option α)) (t : T α) (k j : Nat), (fillO t k l).get j = if k ≤ j ∧ j < k + l.length then (l[j - k]?).join else t.get j
  | [], t, k, j => by simp only [fillO, List.length_nil]; rw [if_neg (by omega)]
  | x :: l, t, k, j => by
    simp only [fillO, fillO_get l, T.get_set, List.length_cons]
    by_cases e : j = k
    · subst e; rw [if_neg (by omega), if_pos rfl, if_pos (by omega)]; simp
    · by_cases q : k + 1 ≤ j ∧ j < k + 1 + l.length
      · rw [if_pos q, if_pos (by omega), show j - k = (j - (k + 1)) + 1 by omega]; simp
      · rw [if_neg q, if_neg e, if_neg (by omega)]
theorem fillO_get0 {α : Type} (l : List (Option α)) (j : Nat) : (fillO (.e : T α) 0 l).get j = (l[j]?).join := by
  rw [fillO_get]
  by_cases q : j < l.length
  · rw [if_pos ⟨Nat.zero_le _, by omega⟩]; simp
  · rw [if_neg (by omega), List.getElem?_eq_none (by omega)]; rfl
def absObj (n : Nat) : Obj → Option AObj
  | .cells c _ _ => some (.cells c.size (fillO .e 0 (c.toList.map (absV n))) ⟨0, 0⟩ true)
  | _ => none
def absH (w : World) : H := ⟨fillO .e 0 (w.heap.toList.map (absObj w.heap.size)), w.heap.size, 0⟩
theorem absH_get (w : World) (b : Nat) : (absH w).t.get b = (w.heap[b]?).bind (absObj w.heap.size) := by
  unfold absH
  simp only [fillO_get0, List.getElem?_map, Array.getElem?_toList]
  cases w.heap[b]? <;> rfl
theorem absH_rel (w : World) : HR ⟨w.heap.size, fun _ => none⟩ (absPhi w.heap.size) (absH w) w := by
  have hlt : ∀ {b : Nat} {o : AObj}, (absH w).t.get b = some o → b < w.heap.size := fun {b o} hb => by
    rw [absH_get] at hb
    cases hx : w.heap[b]? with
    | none => rw [hx] at hb; cases hb
    | some x => exact (Array.getElem?_eq_some_iff.1 hx).1
  refine ⟨fun b o hb _ => ?_, fun b o b' o' L L' hb hb' h1 h2 e => ?_, fun b hb => ?_, fun b hb => absurd rfl hb, fun g hg => absurd hg (Nat.not_lt_zero _)⟩
  · have hl := hlt hb
    refine ⟨⟨b, 0, 0⟩, by unfold absPhi; rw [if_pos hl], ?_⟩
    rw [absH_get] at hb
    cases hx : w.heap[b]? with
    | none => rw [hx] at hb; cases hb
    | some x =>
      rw [hx] at hb
      cases x with
      | cells c t frz =>
        simp only [Option.bind_some, absObj] at hb
        cases hb
        refine ⟨c, t, frz, hx, by simp, fun i v hv => ?_, (fun h => by cases h), (fun h => absurd rfl h), (fun _ => rfl), (fun h => absurd rfl h), (fun _ h => by cases h)⟩
        rw [fillO_get0, List.getElem?_map, Array.getElem?_toList] at hv
        cases hc : c[i]? with
        | none => rw [hc] at hv; cases hv
        | some cv =>
          rw [hc] at hv
          have hv' : absV w.heap.size cv = some v := hv
          obtain ⟨h1, h2⟩ := absV_rel hv'
          exact ⟨(Array.getElem?_eq_some_iff.1 hc).1, h2, cv, by rw [Nat.zero_add]; exact hc, h1⟩
      | _ => cases hb
  · unfold absPhi at h1 h2
    rw [if_pos (hlt hb)] at h1
    rw [if_pos (hlt hb')] at h2
    cases h1; cases h2; exact e
  · unfold absPhi; rw [if_neg (by exact Nat.not_lt.2 hb)]
theorem absH_cell {w : World} {b o : Nat} {v : Value} {a : AV} (hc : w.cell? ⟨b, o, none⟩ = some v) (ha : absV w.heap.size v = some a) : cellAt (absH w) b o = some a := by
  unfold World.cell? at hc
  unfold cellAt
  rw [absH_get]
  simp only at hc
  cases hx : w.heap[b]? with
  | none => rw [hx] at hc; cases hc
  | some x =>
    rw [hx] at hc
    cases x with
    | cells c t frz =>
      simp only [Option.bind_some, absObj, fillO_get0, List.getElem?_map, Array.getElem?_toList]
      have : c[o]? = some v := by simpa using hc
      rw [this]; exact ha
    | _ => simp at hc
theorem trodAll_below {P : Program} {K : Type} {enc : TypeId × Value → K} {W W' : World} (hl : laidOutB P = true) (hb : Below W.heap.size W W') : ∀ {ts : List TypeId} {vs : List Value} {ds : List (DataW K)} {ps : List MemPlace},
    (∀ t, t ∈ ts → P.readableRec t = true ∧ t < P.types.size) → DataW.TrodAll enc P W 0 (fun _ => true) true ts vs ds ps → (∀ p, p ∈ ps → p.block < W.heap.size) → ∀ sp : Nat → Bool, (∀ p, p ∈ ps → sp p.block = true) → DataW.TrodAll enc P W' 0 sp true ts vs ds ps
  | [], [], [], _, _, h, _, _, _ => h
  | t :: ts, v :: vs, d :: ds, ps, ht, h, hlt, sp, hsp => by
    obtain ⟨p, q, ⟨fuel, h1⟩, h2, rfl⟩ := h
    have ht' := ht t List.mem_cons_self
    refine ⟨p, q, ⟨fuel, DataW.trod_stays (kids_book hl ht'.1) (book_sized ht'.1) (fun h => by cases h) ⟨ht'.2, book_self t⟩ h1 (fun x hx => hb.same (hlt x (List.mem_append_left _ hx))) (fun x hx => hsp x (List.mem_append_left _ hx))⟩,
      trodAll_below hl hb (fun t h => ht t (List.mem_cons_of_mem _ h)) h2 (fun x hx => hlt x (List.mem_append_right _ hx)) sp (fun x hx => hsp x (List.mem_append_right _ hx)), rfl⟩
  | [], [], _ :: _, _, _, h, _, _, _ => h.elim
  | [], _ :: _, _, _, _, h, _, _, _ => h.elim
  | _ :: _, [], _, _, _, h, _, _, _ => h.elim
  | _ :: _, _ :: _, [], _, _, h, _, _, _ => h.elim
theorem wf_nat {k : IntKind} (hk : k.signed = false) {z : Int} (h : (Lit.int k z).wf = true) : ∃ n : Nat, z = Int.ofNat n ∧ n < modF k := by
  cases k <;> simp [IntKind.signed] at hk <;> simp [Lit.wf, IntKind.min, IntKind.max, IntKind.signed, IntKind.bits] at h <;>
    exact ⟨z.toNat, (Int.toNat_of_nonneg h.1).symm, by simp only [modF]; omega⟩
end
end Go.AX

namespace Go.AX
noncomputable section
open Go.RowKit
def isRF : Code → Bool
  | .rangeFunc _ _ _ _ => true
  | _ => false
def rfOp : Code → Operand
  | .rangeFunc f _ _ _ => f
  | _ => .const (.bool false)
def rfPs : Code → Array Tmp
  | .rangeFunc _ ps _ _ => ps
  | _ => #[]
def H.obj (h : H) (l : Nat) (o : AObj) : H := { h with t := h.t.set l (some o) }
section
variable {P : Program} {h : H}
theorem get_obj (l b : Nat) (o : AObj) : (h.obj l o).t.get b = if b = l then some o else h.t.get b := by unfold H.obj; exact T.get_set _ _ _ _
theorem get_obj_ne {l b : Nat} (hb : b ≠ l) (o : AObj) : (h.obj l o).t.get b = h.t.get b := by rw [get_obj, if_neg hb]
theorem get_obj_self (l : Nat) (o : AObj) : (h.obj l o).t.get l = some o := by rw [get_obj, if_pos rfl]
theorem nx_obj (l : Nat) (o : AObj) : (h.obj l o).nx = h.nx := id rfl
theorem Only.obj {h h' : H} {S : List Nat} (ho : Only h h' S) {l : Nat} (hb : l ∈ S ∨ h.nx ≤ l) (o : AObj) : Only h (h'.obj l o) S :=
  ⟨ho.1, fun b hb' hs => by rw [get_obj_ne (by rintro rfl; rcases hb with q | q; exact hs q; omega)]; exact ho.2 b hb' hs⟩
theorem get_alloc (o : AObj) (b : Nat) : (h.alloc o).t.get b = if b = h.nx then some o else h.t.get b := by unfold H.alloc; exact T.get_set _ _ _ _
theorem nx_alloc (o : AObj) : (h.alloc o).nx = h.nx + 1 := id rfl
theorem Only.alloc {h h' : H} {S : List Nat} (ho : Only h h' S) (o : AObj) : Only h (h'.alloc o) S :=
  ⟨Nat.le_succ_of_le ho.1, fun b hb hs => by rw [get_alloc, if_neg (by have := ho.1; omega)]; exact ho.2 b hb hs⟩
theorem st_rf {fn nt : Nat} {ro : Option Nat} {c : Code} {rp : List Nat} {ds : List Nat} {tm : T AV} {Q : KQ} (hc : isRF (codeI c rp) = true) {f : Operand} {ps : Array Tmp} (hf : rfOp (codeI c rp) = f) (hp : rfPs (codeI c rp) = ps)
    (hw : rfW P fn nt ro f ps (codeI c (0 :: rp)) (codeI c (1 :: rp)) ds tm h Q) : codeW P fn nt ro (codeI c rp) ds tm h Q := by
  rw [codeI_cons, codeI_cons] at hw
  revert hc hf hp hw; generalize codeI c rp = c; intro hc hf hp hw
  cases c <;> first | (cases hc; done) | (simp only [codeIn, codeIn_nil] at hw; cases hf; cases hp; exact hw)
def loopR (fn nt : Nat) (tm : T AV) (ps : List Tmp) (a b : Code) (d : Nat) (st : LoopState) : ALoop := { state := st, pending := none, fn, nt, tm, params := ps, assign := a, body := b, defers := d }
def loopH (h : H) (fn nt : Nat) (tm : T AV) (ps : List Tmp) (a b : Code) : H := (h.alloc (.deferred (some []))).alloc (.loop (loopR fn nt tm ps a b h.nx .ready))
theorem loopH_nx (fn nt : Nat) (tm : T AV) (ps : List Tmp) (a b : Code) : (loopH h fn nt tm ps a b).nx = h.nx + 2 := id rfl
theorem loopH_get (fn nt : Nat) (tm : T AV) (ps : List Tmp) (a b : Code) (c : Nat) : (loopH h fn nt tm ps a b).t.get c = if c = h.nx + 1 then some (.loop (loopR fn nt tm ps a b h.nx .ready)) else if c = h.nx then some (.deferred (some [])) else h.t.get c := by
  unfold loopH; rw [get_alloc, nx_alloc]; split
  · rfl
  · rw [get_alloc]
theorem rf_walk {fn nt : Nat} {f : Operand} {ps : Array Tmp} {a b : Code} {ds : List Nat} {tm : T AV} {Q : KQ} {g : Nat} {cap : List AV} (he : evalA tm f = some (.func g [] cap))
    (hcf : ∀ (args : List AV) (h : H), callV P (.func g [] cap) args h = .enter g (args ++ cap) h)
    (hp : PushC P (.enter g ([.yield (h.nx + 1)] ++ cap) (loopH h fn nt tm ps.toList a b)) fun _ h' => h'.t.get (h.nx + 1) = some (.loop (loopR fn nt tm ps.toList a b h.nx .ready)) ∧
      Q .norm (h.nx :: ds) tm (h'.obj (h.nx + 1) (.loop (loopR fn nt tm ps.toList a b h.nx .exhausted)))) : rfW P fn nt none f ps a b ds tm h Q := by
  unfold rfW
  rw [he]
  simp only
  rw [hcf]
  unfold rfCall
  simp only
  refine PushC.mono P hp ?_
  rintro _ h' ⟨hl, hq⟩
  unfold rfEnd
  rw [hl]
  exact hq
def AsgK (P : Program) (l : Nat) (r : ALoop) (Q : AV → H → Prop) : KQ := fun o ds tm h =>
  match o with
  | .norm => ds = [] ∧ ∃ r', h.t.get l = some (.loop r') ∧ r'.state = .ready ∧ codeW P r.fn r.nt (some l) r.body [] tm { h with t := h.t.set l (some (.loop { r' with state := .busy })) } (roundEnd l Q)
  | _ => False
theorem asg_norm {l : Nat} {r : ALoop} {Q : AV → H → Prop} {tm : T AV} (hl : h.t.get l = some (.loop r)) (hst : r.state = .ready) (hw : codeW P r.fn r.nt (some l) r.body [] tm (h.obj l (.loop { r with state := .busy })) (roundEnd l Q)) :
    AsgK P l r Q .norm [] tm h := ⟨rfl, r, hl, hst, hw⟩
theorem roundEnd_norm {l : Nat} {r : ALoop} {Q : AV → H → Prop} {ds : List Nat} {tm : T AV} (hl : h.t.get l = some (.loop { r with state := .busy })) (hst : r.state = .ready) (hpe : r.pending = none) (hq : Q (.bool true) (h.obj l (.loop r))) : roundEnd l Q .norm ds tm h := by
  unfold roundEnd
  rw [hl]
  have : ({ r with state := .ready, pending := none } : ALoop) = r := by cases r; simp only at hst hpe; subst hst; subst hpe; rfl
  simp only
  rw [this]; exact hq
theorem round_walk {l : Nat} {args : List AV} {r : ALoop} {tm : T AV} {Q : AV → H → Prop} (hl : h.t.get l = some (.loop r)) (hp : setParams r.nt r.tm r.params args = some tm)
    (hw : codeW P r.fn r.nt (some l) r.assign [] tm h (AsgK P l r Q)) : PushC P (.round l args h) Q := pushC_round hl hp hw
end
end
end Go.AX

namespace Go.AX
noncomputable section
open Go.RowKit
section
variable {P : Program} {nt : Nat} {ops : Array Oper}
def drawI (P : Program) (nt : Nat) (ops : Array Oper) (i : Nat) (l : List Oper) (early : List (Nat × Oper × Nat)) (tm : T AV) (h : H) (Q : T AV → H → Prop) : Prop := drawW P nt ops (idxd i l) early tm h Q
def dK (P : Program) (nt : Nat) (ops : Array Oper) (i : Nat) (d : Option Tmp) (l : List Oper) (early : List (Nat × Oper × Nat)) (tm : T AV) (Q : T AV → H → Prop) (v : AV) (h : H) : Prop := drawI P nt ops i l early (putT nt tm d v) h Q
theorem dK_def (i : Nat) (d : Option Tmp) (l : List Oper) (early : List (Nat × Oper × Nat)) (tm : T AV) (Q : T AV → H → Prop) (v : AV) (h : H) : dK P nt ops i d l early tm Q v h = drawI P nt ops i l early (putT nt tm d v) h Q := id rfl
def gX (b : Option Bool) (p q : Prop) : Prop :=
  match b with
  | some true => p
  | some false => q
  | none => False
theorem gX_true (p q : Prop) : gX (some true) p q = p := id rfl
theorem gX_false (p q : Prop) : gX (some false) p q = q := id rfl
theorem wantW_none' {tm : T AV} {g : Option (Nat × Bool)} (hg : g = none) {p q : Prop} (hp : p) : wantW tm ops g p q := by subst hg; exact hp
theorem wantW_some {tm : T AV} {g : Option (Nat × Bool)} {x : Nat × Bool} (hg : g = some x) {p q : Prop} (hp : gX (guardV tm ops x) p q) : wantW tm ops g p q := by
  subst hg
  obtain ⟨j, w⟩ := x
  unfold wantW
  unfold guardV gX at hp
  simp only at hp ⊢
  cases hd : dstOf ops j with
  | none => rw [hd] at hp; exact hp
  | some d =>
    rw [hd] at hp
    simp only at hp ⊢
    cases hv : tm.get d with
    | none => rw [hv] at hp; exact hp
    | some v =>
      rw [hv] at hp
      cases v with
      | bool b =>
        simp only at hp ⊢
        cases hx : (b == w) with
        | true => rw [hx] at hp; rw [ifB_true]; exact hp
        | false => rw [hx] at hp; rw [ifB_false]; exact hp
      | tuple l => cases l with
        | nil => exact hp
        | cons _ _ => exact hp
      | _ => exact hp
def slotV (nt : Nat) (tm : T AV) (d : Option Tmp) (v : AV) : Prop :=
  match d with
  | none => True
  | some d => d < nt ∧ tm.get d = some v
theorem slotV_none (tm : T AV) (v : AV) : slotV nt tm none v = True := id rfl
theorem slotV_some (tm : T AV) (d : Tmp) (v : AV) : slotV nt tm (some d) v = (d < nt ∧ tm.get d = some v) := id rfl
theorem slotV_is {tm : T AV} {d : Option Tmp} {v : AV} (h : slotV nt tm d v) : slotIs nt tm d v = true := by
  cases d with
  | none => rfl
  | some d =>
    obtain ⟨h1, h2⟩ := h
    have : Nat.blt d nt = true := by rw [Nat.blt_eq]; exact h1
    simp only [slotIs, this, h2, AV.same_refl]
def sK (nt : Nat) (tm : T AV) (d : Option Tmp) (v : AV) (_ : H) : Prop := slotV nt tm d v
theorem sK_def (tm : T AV) (d : Option Tmp) (v : AV) (h : H) : sK nt tm d v h = slotV nt tm d v := id rfl
def gO (tm : T AV) (ops : Array Oper) (g : Option (Nat × Bool)) : Prop :=
  match g with
  | none => True
  | some g => guardV tm ops g = some true
def fX (x : Option (TypeId × List AV × Nat)) (p : TypeId → List AV → Nat → Prop) : Prop :=
  match x with
  | some (t, l, n) => p t l n
  | none => False
theorem fX_some (t : TypeId) (l : List AV) (n : Nat) (p : TypeId → List AV → Nat → Prop) : fX (some (t, l, n)) p = p t l n := id rfl
theorem gO_none (tm : T AV) (ops : Array Oper) : gO tm ops none = True := id rfl
theorem gO_some (tm : T AV) (ops : Array Oper) (g : Nat × Bool) : gO tm ops (some g) = (guardV tm ops g = some true) := id rfl
def obf (x : Option (List (Nat × AV))) (f : List (Nat × AV) → Option (TypeId × List AV × Nat)) : Option (TypeId × List AV × Nat) :=
  match x with
  | some l => f l
  | none => none
theorem obf_some (l : List (Nat × AV)) (f : List (Nat × AV) → Option (TypeId × List AV × Nat)) : obf (some l) f = f l := id rfl
theorem fresh2_bs (tm : T AV) (t : TypeId) (n : Nat) (ps : Array (Nat × Operand)) : fresh2 P tm (.buildSlice t n ps) = obf (evalP tm ps.toList) fun l => rowS P t n l := by
  unfold obf fresh2; rfl
def rowSR (x : Option (TypeId × List AV)) (n : Nat) : Option (TypeId × List AV × Nat) :=
  match x with
  | some (e, l) => match allOne l with
    | true => some (e, l, n)
    | false => none
  | none => none
theorem rowSR_ok {e : TypeId} {l : List AV} {n : Nat} (hl : allOne l = true) : rowSR (some (e, l)) n = some (e, l, n) := by unfold rowSR; simp only [hl]
theorem rowS_C (t : TypeId) (n : Nat) (parts : List (Nat × AV)) : rowS P t n parts = rowSR (buildSC P t n (parts.map fun p => (p.1, p.2.cells))) n := by
  have h := buildS_C (P := P) (h := ⟨.e, 0, 0⟩) t n parts
  unfold rowS buildSC rowSR
  cases P.underlying t with
  | none => rfl
  | some d => cases d with
    | slice elem =>
      simp only [fillA_C]
      cases okT P elem with
      | false => rfl
      | true => cases small (n * P.cellsOf elem) with
        | false => rfl
        | true => cases zeroA P elem with
          | none => rfl
          | some z =>
            simp only
            cases Nat.beq z.cells.length (P.cellsOf elem) with
            | false => rfl
            | true => cases fillC (fun i => some (i * P.cellsOf elem, P.cellsOf elem)) (repl z.cells n) (List.map (fun p => (p.fst, p.snd.cells)) parts) with
              | none => rfl
              | some l => rfl
    | _ => rfl
theorem gO_wanted {tm : T AV} {ops : Array Oper} {o : Oper} (h : gO tm ops o.guard) : wantedD tm ops o = true := by
  unfold wantedD
  cases hg : o.guard with
  | none => rfl
  | some g =>
    rw [hg] at h
    have h : guardV tm ops g = some true := h
    unfold guardV at h
    obtain ⟨j, w⟩ := g
    simp only at h ⊢
    cases hd : dstOf ops j with
    | none => rw [hd] at h; cases h
    | some d =>
      rw [hd] at h
      simp only at h ⊢
      split at h
      · rename_i b hb; rw [hb]; exact Option.some.inj h
      · cases h
      · cases h
theorem fresh2_mini {tm : T AV} {ops : Array Oper} {o : Oper} : fresh2 P (mini tm (slotsOf ops o)) o.op = fresh2 P tm o.op := by
  obtain ⟨dst, op, ty, pos, after, guard⟩ := o
  cases op with
  | buildSlice t n ps =>
    unfold fresh2
    simp only
    rw [evalP_same (tm := mini tm (slotsOf ops ⟨dst, .buildSlice t n ps, ty, pos, after, guard⟩)) (tm' := tm) (fun t ht => ?_)]
    rw [mini_get, if_pos (slotsOf_ops (tmpsOf_mem (by simpa [Op.operands] using ht)))]
  | makeSlice t a b =>
    unfold fresh2
    simp only
    rw [evalA_same (tm := mini tm (slotsOf ops ⟨dst, .makeSlice t a b, ty, pos, after, guard⟩)) (tm' := tm) (x := a) (fun t ht => ?_), evalA_same (tm := mini tm (slotsOf ops ⟨dst, .makeSlice t a b, ty, pos, after, guard⟩)) (tm' := tm) (x := b) (fun t ht => ?_)]
    · rw [mini_get, if_pos (slotsOf_ops (tmpsOf_mem (by simp [Op.operands, ht])))]
    · rw [mini_get, if_pos (slotsOf_ops (tmpsOf_mem (by simp [Op.operands, ht])))]
  | _ => rfl
def eOk (P : Program) (nt : Nat) (ops : Array Oper) (tm : T AV) (h : H) : List (Nat × Oper × Nat) → Prop
  | [] => True
  | (_, o, b) :: l => (match isAlloc o with
    | false => (isFl o = true ∧ gO tm ops o.guard ∧ fX (fresh2 P tm o.op) (fun t l n => freshIs t l (h.t.get b) = true ∧ slotV nt tm o.dst (.slice b 0 n (.exact n)))) ∨ (isRead o.op || scalarConv P o.op) = true ∧ wantW tm ops o.guard (exW P (execA P tm h o.op) (sK nt tm o.dst)) (slotV nt tm o.dst und)
    | true => ∃ t z, o.op = .alloc t ∧ zeroA P t = some z ∧ freshIs t z.cells (h.t.get b) = true ∧ slotV nt tm o.dst (.ptr b 0)) ∧ eOk P nt ops tm h l
theorem eok_nil {tm : T AV} {h : H} : eOk P nt ops tm h [] := trivial
theorem eok_read {tm : T AV} {h : H} {i b : Nat} {o : Oper} {l : List (Nat × Oper × Nat)} (ha : isAlloc o = false) (hr : isRead o.op = true) (hg : o.guard = none) (hw : exW P (execA P tm h o.op) (sK nt tm o.dst)) (hl : eOk P nt ops tm h l) : eOk P nt ops tm h ((i, o, b) :: l) := by
  refine ⟨?_, hl⟩
  rw [ha]
  exact .inr ⟨by rw [hr]; rfl, wantW_none' hg hw⟩
theorem eok_readg {tm : T AV} {h : H} {i b : Nat} {o : Oper} {l : List (Nat × Oper × Nat)} {g : Nat × Bool} (ha : isAlloc o = false) (hr : isRead o.op = true) (hg : o.guard = some g) (hw : gX (guardV tm ops g) (exW P (execA P tm h o.op) (sK nt tm o.dst)) (slotV nt tm o.dst und)) (hl : eOk P nt ops tm h l) :
    eOk P nt ops tm h ((i, o, b) :: l) := by
  refine ⟨?_, hl⟩
  rw [ha]
  exact .inr ⟨by rw [hr]; rfl, wantW_some hg hw⟩
theorem eok_conv {tm : T AV} {h : H} {i b : Nat} {o : Oper} {l : List (Nat × Oper × Nat)} (ha : isAlloc o = false) (_hx : isConv o.op = true) (hr : scalarConv P o.op = true) (hg : o.guard = none) (hw : exW P (execA P tm h o.op) (sK nt tm o.dst)) (hl : eOk P nt ops tm h l) : eOk P nt ops tm h ((i, o, b) :: l) := by
  refine ⟨?_, hl⟩
  rw [ha]
  exact .inr ⟨by rw [hr, Bool.or_true], wantW_none' hg hw⟩
theorem eok_alloc {tm : T AV} {h : H} {i b : Nat} {o : Oper} {l : List (Nat × Oper × Nat)} {t : TypeId} {z : AV} (ha : isAlloc o = true) (ho : o.op = .alloc t) (hz : zeroA P t = some z) (hf : freshIs t z.cells (h.t.get b) = true) (hs : slotV nt tm o.dst (.ptr b 0)) (hl : eOk P nt ops tm h l) : eOk P nt ops tm h ((i, o, b) :: l) := by
  refine ⟨?_, hl⟩
  rw [ha]
  exact ⟨t, z, ho, hz, hf, hs⟩
theorem eok_float {tm : T AV} {h : H} {i b : Nat} {o : Oper} {l : List (Nat × Oper × Nat)} (ha : isAlloc o = false) (hf : isFl o = true) (hg : gO tm ops o.guard) (hx : fX (fresh2 P tm o.op) (fun t l n => freshIs t l (h.t.get b) = true ∧ slotV nt tm o.dst (.slice b 0 n (.exact n)))) (hl : eOk P nt ops tm h l) : eOk P nt ops tm h ((i, o, b) :: l) := by
  refine ⟨?_, hl⟩
  rw [ha]
  exact .inl ⟨hf, hg, hx⟩
theorem eok_early {tm : T AV} {h : H} : ∀ {l : List (Nat × Oper × Nat)}, eOk P nt ops tm h l → earlyOk P nt tm h ops l = true
  | [], _ => rfl
  | (i, o, b) :: l, ⟨h1, h2⟩ => by
    have : readOk P nt tm h ops o b = true := by
      unfold readOk
      cases ha : isAlloc o with
      | false =>
        rw [ha] at h1
        rcases h1 with ⟨hf, hg, h1⟩ | ⟨hk, hw⟩
        · simp only [hf, wantedD_mini, gO_wanted hg, fresh2_mini]
          cases hx : fresh2 P tm o.op with
          | none => rw [hx] at h1; exact absurd h1 id
          | some x =>
            obtain ⟨t, l, n⟩ := x
            rw [hx] at h1
            obtain ⟨h1, h2⟩ := h1
            simp only [h1]
            exact slotV_is h2
        have hk0 : kindOf P o = 0 := by unfold kindOf; rw [hk]
        obtain ⟨v, hv, hs⟩ := read_now (K := sK nt tm o.dst) hk0 hw
        simp only [kind_fl hk0, hv]
        exact slotV_is hs
      | true =>
        rw [ha] at h1
        obtain ⟨t, z, ho, hz, hf, hs⟩ := h1
        simp only [ho, fresh1, hz, hf]
        exact slotV_is hs
    simp only [earlyOk, this]
    exact eok_early h2
section
variable {i : Nat} {o : Oper} {l : List Oper} {early : List (Nat × Oper × Nat)} {tm : T AV} {h : H} {Q : T AV → H → Prop}
theorem dI_nil (he : eOk P nt ops tm h early) (hq : Q tm h) : drawI P nt ops i [] early tm h Q := ⟨eok_early he, hq⟩
theorem dI_read' (hk : (isRead o.op || scalarConv P o.op) = true) (hw : wantW tm ops o.guard (exW P (execA P tm h o.op) (dK P nt ops (i + 1) o.dst l ((i, o, 0) :: early) tm Q)) (dK P nt ops (i + 1) o.dst l ((i, o, 0) :: early) tm Q und h)) :
    drawI P nt ops i (o :: l) early tm h Q := by
  have hk0 : kindOf P o = 0 := by unfold kindOf; rw [hk]
  obtain ⟨v, hv, hK⟩ := read_now hk0 hw
  unfold drawI
  simp only [idxd, drawW, kind_alloc hk0, hv]
  exact hK
theorem dI_read (hk : isRead o.op = true) (hg : o.guard = none) (hw : exW P (execA P tm h o.op) (dK P nt ops (i + 1) o.dst l ((i, o, 0) :: early) tm Q)) : drawI P nt ops i (o :: l) early tm h Q :=
  dI_read' (by rw [hk]; rfl) (wantW_none' hg hw)
theorem dI_conv (_hx : isConv o.op = true) (hk : scalarConv P o.op = true) (hg : o.guard = none) (hw : exW P (execA P tm h o.op) (dK P nt ops (i + 1) o.dst l ((i, o, 0) :: early) tm Q)) : drawI P nt ops i (o :: l) early tm h Q :=
  dI_read' (by rw [hk, Bool.or_true]) (wantW_none' hg hw)
theorem dI_readg {g : Nat × Bool} (hk : isRead o.op = true) (hg : o.guard = some g) (hw : gX (guardV tm ops g) (exW P (execA P tm h o.op) (dK P nt ops (i + 1) o.dst l ((i, o, 0) :: early) tm Q)) (dK P nt ops (i + 1) o.dst l ((i, o, 0) :: early) tm Q und h)) :
    drawI P nt ops i (o :: l) early tm h Q := dI_read' (by rw [hk]; rfl) (wantW_some hg hw)
theorem dI_exec' (h1 : isRead o.op = false) (h2 : isConv o.op = false) (h3 : isAlloc o = false) (h4 : chainB i [i] (idxd (i + 1) l) = true) (h5 : dstOk nt o.dst = true) (he : eOk P nt ops tm h early)
    (hw : wantW tm ops o.guard (exW P (execA P tm h o.op) (dK P nt ops (i + 1) o.dst l (dropF (edgesOf o.after.toList) early) tm Q)) (dK P nt ops (i + 1) o.dst l (dropF (edgesOf o.after.toList) early) tm Q und h)) :
    drawI P nt ops i (o :: l) early tm h Q := by
  have hrv : readVal P tm h ops o = none := by unfold readVal; rw [h1, h2]
  unfold drawI
  simp only [idxd, drawW, h3, hrv, h4, Bool.not_true, Bool.and_false]
  exact ⟨h1, trivial, eok_early he, h5, exec_now hw⟩
theorem dI_exec (h1 : isRead o.op = false) (h2 : isConv o.op = false) (h3 : isAlloc o = false) (h4 : chainB i [i] (idxd (i + 1) l) = true) (h5 : dstOk nt o.dst = true) (hg : o.guard = none) (he : eOk P nt ops tm h early)
    (hw : exW P (execA P tm h o.op) (dK P nt ops (i + 1) o.dst l (dropF (edgesOf o.after.toList) early) tm Q)) : drawI P nt ops i (o :: l) early tm h Q := dI_exec' h1 h2 h3 h4 h5 he (wantW_none' hg hw)
theorem dI_execg {g : Nat × Bool} (h1 : isRead o.op = false) (h2 : isConv o.op = false) (h3 : isAlloc o = false) (h4 : chainB i [i] (idxd (i + 1) l) = true) (h5 : dstOk nt o.dst = true) (hg : o.guard = some g) (he : eOk P nt ops tm h early)
    (hw : gX (guardV tm ops g) (exW P (execA P tm h o.op) (dK P nt ops (i + 1) o.dst l (dropF (edgesOf o.after.toList) early) tm Q)) (dK P nt ops (i + 1) o.dst l (dropF (edgesOf o.after.toList) early) tm Q und h)) : drawI P nt ops i (o :: l) early tm h Q :=
  dI_exec' h1 h2 h3 h4 h5 he (wantW_some hg hw)
def zF (x : Option AV) (t : TypeId) (o : Option AObj) : Prop :=
  match x with
  | some z => freshIs t z.cells o = true
  | none => False
theorem zF_some (z : AV) (t : TypeId) (o : Option AObj) : zF (some z) t o = (freshIs t z.cells o = true) := id rfl
theorem sameRow_refl : ∀ l : List AV, sameRow l l = true
  | [] => rfl
  | x :: l => by simp only [sameRow, AV.same_refl x, sameRow_refl l, Bool.and_self]
theorem T.same_refl : ∀ t : T AV, T.same t t = true
  | .e => rfl
  | .row l => by simp only [T.same, sameRow_refl]
  | .n l v r => by
    unfold T.same
    cases v with
    | none => simp [T.same_refl l, T.same_refl r]
    | some x => simp [AV.same_refl x, T.same_refl l, T.same_refl r]
theorem freshIs_new {t : TypeId} {l : List AV} (hs : T.same (T.ofRow l) (T.ofRow l) = true) : freshIs t l ((h.newCells t l).t.get h.nx) = true := by
  unfold H.newCells H.alloc
  simp only [T.get_set, if_true, freshIs, Nat.beq_refl, Bool.true_and, Bool.and_true, hs]
theorem eok_alloc' {b : Nat} {el : List (Nat × Oper × Nat)} {t : TypeId} (ha : isAlloc o = true) (ho : o.op = .alloc t) (hz : zF (zeroA P t) t (h.t.get b)) (hs : slotV nt tm o.dst (.ptr b 0)) (hl : eOk P nt ops tm h el) : eOk P nt ops tm h ((i, o, b) :: el) := by
  unfold zF at hz
  split at hz
  · rename_i z hz'
    exact eok_alloc ha ho hz' hz hs hl
  · exact absurd hz id
theorem dI_alloc {t : TypeId} (ha : isAlloc o = true) (ho : o.op = .alloc t) (hw : exW P (execA P tm h (.alloc t)) (dK P nt ops (i + 1) o.dst l ((i, o, h.nx) :: early) tm Q)) : drawI P nt ops i (o :: l) early tm h Q := by
  rw [ex_alloc] at hw
  unfold drawI
  cases hz : zeroA P t with
  | none => rw [hz] at hw; exact absurd hw id
  | some z =>
    rw [hz] at hw
    simp only [idxd, drawW, ha, ho, fresh1, hz]
    exact hw
def drawT (P : Program) (ops : Array Oper) : Bool :=
  P.follows .mixedOrders && match drawA ops with
  | some d => natsEq (d.rem.map (·.1)) ((idxd 0 ops.toList).map (·.1))
  | none => false
theorem st_dw {fn : Nat} {ro : Option Nat} {c : Code} {rp : List Nat} {ds : List Nat} {Q : KQ} (hc : isDrawn (codeI c rp) = true) {ops : Array Oper} {l : List Oper} (ho : regionOf (codeI c rp) = ops) (hl : ops.toList = l)
    (hs : drawT P ops = true) (hw : drawI P nt ops 0 l [] tm h (Q .norm ds)) : codeW P fn nt ro (codeI c rp) ds tm h Q := by
  unfold drawT at hs
  rw [Bool.and_eq_true] at hs
  obtain ⟨hm, hs⟩ := hs
  split at hs
  · rename_i d hd
    have hd' : d = ⟨ops, d.rem, [], false⟩ ∧ d.rem = asap (idxd 0 ops.toList) ops.toList.length [] := by
      unfold drawA at hd
      simp only at hd
      split at hd
      · cases hd; exact ⟨rfl, rfl⟩
      · cases hd
    have he : d.rem = idxd 0 ops.toList := by
      refine idxd_inj (ops := ops.toList) (fun p hp => ?_) (fun p hp => hp) (natsEq_eq hs)
      rw [hd'.2] at hp
      exact asap_mem hp
    rw [he] at hd'
    rw [hd'.1] at hd
    subst hl
    revert hc ho; generalize codeI c rp = c; intro hc ho
    cases c with
    | region i ops' d => cases d with
      | true =>
        have ho' : ops' = ops := ho
        subst ho'
        simp only [codeW, hm, hd]
        exact hw
      | false => cases hc
    | _ => cases hc
  · cases hs
theorem undef_one {h : H} {d : Nat} (hd : h.t.get d = some (.deferred (some []))) : undef h [d] = some (h.obj d (.deferred none)) := by
  simp only [undef, hd]; rfl
theorem retW_undef {fn : Func} {rl : List ResultVar} {h : H} {d : Nat} {tm : T AV} {Q : AV → H → Prop} (hd : h.t.get d = some (.deferred (some []))) (hl : fn.results.toList = rl) (hw : retW P rl tm (h.obj d (.deferred none)) Q) : retK P fn Q .ret [d] tm h := by
  have := retW_intro (P := P) (fn := fn) hl hw
  rw [retK_ret] at this ⊢
  obtain ⟨h2, hu, r⟩ := this
  cases hu
  exact ⟨_, undef_one hd, r⟩
end
end
end
end Go.AX

namespace Go.AX
noncomputable section
open Go.RowKit
section
variable {P : Program} {h : H}
theorem loadCells_ok {cs : T AV} : ∀ (k o : Nat) (l : List AV), l.length = k → (∀ i, i < k → cs.get (o + i) = l[i]?) → H.loadCells cs o k = some l
  | 0, o, l, hl, _ => by rw [List.length_eq_zero_iff.1 hl]; rfl
  | k + 1, o, [], hl, _ => by simp at hl
  | k + 1, o, v :: l, hl, hc => by
    have h0 := hc 0 (by omega)
    simp only [Nat.add_zero, List.getElem?_cons_zero] at h0
    have ih := loadCells_ok (cs := cs) k (o + 1) l (by simpa using hl) (fun i hi => by
      have := hc (i + 1) (by omega)
      rw [show o + 1 + i = o + (i + 1) by omega, this, List.getElem?_cons_succ])
    simp only [H.loadCells, h0, ih]
theorem row_ok {b o : Nat} {cs : List AV} (hc : CellsAt h b o cs) (h0 : cs ≠ []) : h.row b o cs.length = some cs := by
  obtain ⟨v, l, rfl⟩ : ∃ v l, cs = v :: l := by cases cs with | nil => exact absurd rfl h0 | cons v l => exact ⟨v, l, rfl⟩
  have h1 := hc 0 (by simp)
  unfold CellsAt cellAt at hc
  unfold cellAt at h1
  unfold H.row
  cases hb : h.t.get b with
  | none => rw [hb] at h1; simp at h1
  | some x =>
    cases x with
    | cells n t k ro =>
      rw [hb] at hc
      simp only [loadRow_eq]
      exact loadCells_ok _ _ _ rfl hc
    | _ => rw [hb] at h1; simp at h1
theorem SliceAt.blk {v : AV} {n : Nat} {cs : List AV} (hs : SliceAt h v n cs) : ∀ c, blkOf v = some c → c < h.nx := by
  intro c hc
  cases hs with
  | none => cases hc
  | zero => cases hc
  | cell b o n cap cs hb => cases hc; exact hb
end
end
end Go.AX

namespace Go.AX
noncomputable section
open Go.RowKit
def nthO : List Oper → Nat → Option Oper
  | [], _ => none
  | o :: _, 0 => some o
  | _ :: l, n + 1 => nthO l n
def pickL (l : List Oper) : List Nat → List (Nat × Oper)
  | [] => []
  | n :: ns => match nthO l n with
    | some o => (n, o) :: pickL l ns
    | none => []
theorem nthO_idxd : ∀ (l : List Oper) (i : Nat) (p : Nat × Oper), p ∈ idxd i l → i ≤ p.1 ∧ nthO l (p.1 - i) = some p.2
  | [], _, _, h => by cases h
  | o :: l, i, p, h => by
    simp only [idxd, List.mem_cons] at h
    rcases h with rfl | h
    · exact ⟨Nat.le_refl _, by rw [Nat.sub_self]; rfl⟩
    · obtain ⟨h1, h2⟩ := nthO_idxd l (i + 1) p h
      refine ⟨by omega, ?_⟩
      rw [show p.1 - i = (p.1 - (i + 1)) + 1 by omega]
      exact h2
theorem pickL_map {l : List Oper} : ∀ (rem : List (Nat × Oper)), (∀ p, p ∈ rem → nthO l p.1 = some p.2) → pickL l (rem.map (·.1)) = rem
  | [], _ => rfl
  | p :: rem, h => by
    have h1 := h p (by simp)
    have h2 := pickL_map rem (fun q hq => h q (List.mem_cons_of_mem _ hq))
    simp only [List.map_cons, pickL, h1, h2]
section
variable {P : Program} {nt : Nat} {ops : Array Oper}
def drawP (P : Program) (nt : Nat) (ops : Array Oper) (l : List Oper) (os : List Nat) (early : List (Nat × Oper × Nat)) (tm : T AV) (h : H) (Q : T AV → H → Prop) : Prop := drawW P nt ops (pickL l os) early tm h Q
def pK (P : Program) (nt : Nat) (ops : Array Oper) (l : List Oper) (os : List Nat) (d : Option Tmp) (early : List (Nat × Oper × Nat)) (tm : T AV) (Q : T AV → H → Prop) (v : AV) (h : H) : Prop := drawP P nt ops l os early (putT nt tm d v) h Q
theorem pK_def (l : List Oper) (os : List Nat) (d : Option Tmp) (early : List (Nat × Oper × Nat)) (tm : T AV) (Q : T AV → H → Prop) (v : AV) (h : H) : pK P nt ops l os d early tm Q v h = drawP P nt ops l os early (putT nt tm d v) h Q := id rfl
section
variable {n : Nat} {o : Oper} {l : List Oper} {os : List Nat} {early : List (Nat × Oper × Nat)} {tm : T AV} {h : H} {Q : T AV → H → Prop}
theorem dP_nil (he : eOk P nt ops tm h early) (hq : Q tm h) : drawP P nt ops l [] early tm h Q := ⟨eok_early he, hq⟩
theorem dP_read' (hn : nthO l n = some o) (hk : (isRead o.op || scalarConv P o.op) = true) (hw : wantW tm ops o.guard (exW P (execA P tm h o.op) (pK P nt ops l os o.dst ((n, o, 0) :: early) tm Q)) (pK P nt ops l os o.dst ((n, o, 0) :: early) tm Q und h)) :
    drawP P nt ops l (n :: os) early tm h Q := by
  have hk0 : kindOf P o = 0 := by unfold kindOf; rw [hk]
  obtain ⟨v, hv, hK⟩ := read_now hk0 hw
  unfold drawP
  simp only [pickL, hn, drawW, kind_alloc hk0, hv]
  exact hK
theorem dP_read (hn : nthO l n = some o) (hk : isRead o.op = true) (hg : o.guard = none) (hw : exW P (execA P tm h o.op) (pK P nt ops l os o.dst ((n, o, 0) :: early) tm Q)) : drawP P nt ops l (n :: os) early tm h Q :=
  dP_read' hn (by rw [hk]; rfl) (wantW_none' hg hw)
theorem dP_conv (hn : nthO l n = some o) (_hx : isConv o.op = true) (hk : scalarConv P o.op = true) (hg : o.guard = none) (hw : exW P (execA P tm h o.op) (pK P nt ops l os o.dst ((n, o, 0) :: early) tm Q)) : drawP P nt ops l (n :: os) early tm h Q :=
  dP_read' hn (by rw [hk, Bool.or_true]) (wantW_none' hg hw)
theorem dP_readg {g : Nat × Bool} (hn : nthO l n = some o) (hk : isRead o.op = true) (hg : o.guard = some g) (hw : gX (guardV tm ops g) (exW P (execA P tm h o.op) (pK P nt ops l os o.dst ((n, o, 0) :: early) tm Q)) (pK P nt ops l os o.dst ((n, o, 0) :: early) tm Q und h)) :
    drawP P nt ops l (n :: os) early tm h Q := dP_read' hn (by rw [hk]; rfl) (wantW_some hg hw)
theorem dP_exec' (hn : nthO l n = some o) (h1 : isRead o.op = false) (h2 : isConv o.op = false) (h3 : isAlloc o = false) (h4 : chainB n [n] (pickL l os) = true) (h5 : dstOk nt o.dst = true) (he : eOk P nt ops tm h early)
    (hw : wantW tm ops o.guard (exW P (execA P tm h o.op) (pK P nt ops l os o.dst (dropF (edgesOf o.after.toList) early) tm Q)) (pK P nt ops l os o.dst (dropF (edgesOf o.after.toList) early) tm Q und h)) :
    drawP P nt ops l (n :: os) early tm h Q := by
  have hrv : readVal P tm h ops o = none := by unfold readVal; rw [h1, h2]
  unfold drawP
  simp only [pickL, hn, drawW, h3, hrv, h4, Bool.not_true, Bool.and_false]
  exact ⟨h1, trivial, eok_early he, h5, exec_now hw⟩
theorem dP_exec (hn : nthO l n = some o) (h1 : isRead o.op = false) (h2 : isConv o.op = false) (h3 : isAlloc o = false) (h4 : chainB n [n] (pickL l os) = true) (h5 : dstOk nt o.dst = true) (hg : o.guard = none) (he : eOk P nt ops tm h early)
    (hw : exW P (execA P tm h o.op) (pK P nt ops l os o.dst (dropF (edgesOf o.after.toList) early) tm Q)) : drawP P nt ops l (n :: os) early tm h Q := dP_exec' hn h1 h2 h3 h4 h5 he (wantW_none' hg hw)
theorem dP_execg {g : Nat × Bool} (hn : nthO l n = some o) (h1 : isRead o.op = false) (h2 : isConv o.op = false) (h3 : isAlloc o = false) (h4 : chainB n [n] (pickL l os) = true) (h5 : dstOk nt o.dst = true) (hg : o.guard = some g) (he : eOk P nt ops tm h early)
    (hw : gX (guardV tm ops g) (exW P (execA P tm h o.op) (pK P nt ops l os o.dst (dropF (edgesOf o.after.toList) early) tm Q)) (pK P nt ops l os o.dst (dropF (edgesOf o.after.toList) early) tm Q und h)) : drawP P nt ops l (n :: os) early tm h Q :=
  dP_exec' hn h1 h2 h3 h4 h5 he (wantW_some hg hw)
theorem dP_alloc {t : TypeId} (hn : nthO l n = some o) (ha : isAlloc o = true) (ho : o.op = .alloc t) (hw : exW P (execA P tm h (.alloc t)) (pK P nt ops l os o.dst ((n, o, h.nx) :: early) tm Q)) : drawP P nt ops l (n :: os) early tm h Q := by
  rw [ex_alloc] at hw
  unfold drawP
  cases hz : zeroA P t with
  | none => rw [hz] at hw; exact absurd hw id
  | some z =>
    rw [hz] at hw
    simp only [pickL, hn, drawW, ha, ho, fresh1, hz]
    exact hw
theorem dP_float (hn : nthO l n = some o) (hf : isFl o = true) (h3 : isAlloc o = false) (h4 : chainB n [n] (pickL l os) = false) (hg : gO tm ops o.guard)
    (hx : fX (fresh2 P tm o.op) fun t r k => pK P nt ops l os o.dst ((n, o, h.nx) :: early) tm Q (.slice h.nx 0 k (.exact k)) (h.newCells t r)) : drawP P nt ops l (n :: os) early tm h Q := by
  obtain ⟨-, -, h1, hcv⟩ := isFl_facts hf
  have hrv : readVal P tm h ops o = none := by unfold readVal; rw [h1, hcv]
  unfold drawP
  simp only [pickL, hn, drawW, h3, hrv, hf, h4, Bool.not_false, Bool.and_true, wantedD_mini, gO_wanted hg, fresh2_mini]
  refine ⟨h1, trivial, ?_⟩
  cases hq : fresh2 P tm o.op with
  | none => rw [hq] at hx; exact absurd hx id
  | some x =>
    obtain ⟨t, r, k⟩ := x
    rw [hq] at hx
    exact hx
def drawO (P : Program) (ops : Array Oper) (os : List Nat) : Bool :=
  P.follows .mixedOrders && match drawA ops with
  | some d => natsEq (d.rem.map (·.1)) os
  | none => false
theorem st_dp {fn : Nat} {ro : Option Nat} {c : Code} {rp : List Nat} {ds : List Nat} {Q : KQ} {os : List Nat} (hs : drawO P (regionOf (codeI c rp)) os = true) (hc : isDrawn (codeI c rp) = true) {ops : Array Oper} {l : List Oper} (ho : regionOf (codeI c rp) = ops) (hl : ops.toList = l)
    (hw : drawP P nt ops l os [] tm h (Q .norm ds)) : codeW P fn nt ro (codeI c rp) ds tm h Q := by
  unfold drawO at hs
  rw [Bool.and_eq_true, ho] at hs
  obtain ⟨hm, hs⟩ := hs
  split at hs
  · rename_i d hd
    have hd' : d = ⟨ops, d.rem, [], false⟩ ∧ d.rem = asap (idxd 0 ops.toList) ops.toList.length [] := by
      unfold drawA at hd
      simp only at hd
      split at hd
      · cases hd; exact ⟨rfl, rfl⟩
      · cases hd
    have he : d.rem = pickL ops.toList os := by
      rw [← natsEq_eq hs]
      refine (pickL_map d.rem (fun p hp => ?_)).symm
      rw [hd'.2] at hp
      have := nthO_idxd _ _ _ (asap_mem hp)
      simpa using this.2
    rw [he] at hd'
    rw [hd'.1] at hd
    subst hl
    revert hc ho; generalize codeI c rp = c; intro hc ho
    cases c with
    | region i ops' d => cases d with
      | true =>
        have ho' : ops' = ops := ho
        subst ho'
        simp only [codeW, hm, hd]
        exact hw
      | false => cases hc
    | _ => cases hc
  · cases hs
end
end
end
end Go.AX

namespace Go.AX
noncomputable section
open Go.RowKit
structure Hold (p : Prop) : Prop where
  h : p
def st1F (P : Program) (fn nt : Nat) (ro : Option Nat) (c : Code) (rp : List Nat) (ds : List Nat) (tm : T AV) (h : H) (Q : KQ) : Code → Prop
  | .skip => Hold (Q .norm ds tm h)
  | .seq _ _ => Hold (codeW P fn nt ro (codeI c (0 :: rp)) ds tm h (seqK (codeK P fn nt ro (codeI c (1 :: rp)) Q) Q))
  | .region _ ops false => Hold (opsW P nt ops ops.toList tm h (Q .norm ds))
  | .cond x _ _ => Hold (condW (evalA tm x) (codeW P fn nt ro (codeI c (0 :: rp)) ds tm h Q) (codeW P fn nt ro (codeI c (1 :: rp)) ds tm h Q))
  | .block i _ => Hold (codeW P fn nt ro (codeI c (0 :: rp)) ds tm h (blkK i Q))
  | .scope _ => Hold (codeW P fn nt ro (codeI c (0 :: rp)) ds tm h Q)
  | .exit i => Hold (Q (.exit i) ds tm h)
  | .ret => Hold (Q .ret ds tm h)
  | _ => False
theorem st1 {P : Program} {fn nt : Nat} {ro : Option Nat} {c : Code} {rp : List Nat} {ds : List Nat} {tm : T AV} {h : H} {Q : KQ} (hw : st1F P fn nt ro c rp ds tm h Q (codeI c rp)) : codeW P fn nt ro (codeI c rp) ds tm h Q := by
  cases e : codeI c rp with
  | skip => rw [e] at hw; rw [← e]; exact st_skip (by rw [e]; rfl) hw.h
  | seq a b => rw [e] at hw; rw [← e]; exact st_seq (by rw [e]; rfl) hw.h
  | region i ops d =>
    rw [e] at hw; rw [← e]
    cases d with
    | false => exact st_reg (by rw [e]; rfl) (by rw [e]; rfl) rfl hw.h
    | true => exact absurd hw id
  | cond x a b => rw [e] at hw; rw [← e]; exact st_cond (by rw [e]; rfl) (by rw [e]; rfl) hw.h
  | block i a => rw [e] at hw; rw [← e]; exact st_block (by rw [e]; rfl) (by rw [e]; rfl) hw.h
  | scope a => rw [e] at hw; rw [← e]; exact st_scope (by rw [e]; rfl) hw.h
  | exit i => rw [e] at hw; rw [← e]; exact st_exit (by rw [e]; rfl) (by rw [e]; rfl) hw.h
  | ret => rw [e] at hw; rw [← e]; exact st_ret (by rw [e]; rfl) hw.h
  | _ => rw [e] at hw; exact absurd hw id
def rdB (o : Oper) : Bool := isRead o.op && o.guard.isNone
def cvB (P : Program) (o : Oper) : Bool := isConv o.op && (scalarConv P o.op && o.guard.isNone)
def xqB (nt : Nat) (o : Oper) : Bool := !isRead o.op && (!isConv o.op && (!isAlloc o && dstOk nt o.dst))
def flB (o : Oper) : Bool := isFl o && !isAlloc o
theorem flB_eq {o : Oper} (h : flB o = true) : isFl o = true ∧ isAlloc o = false := by
  unfold flB at h
  rw [Bool.and_eq_true, Bool.not_eq_true'] at h; exact h
theorem rdB_eq {o : Oper} (h : rdB o = true) : isRead o.op = true ∧ o.guard = none := by
  unfold rdB at h
  rw [Bool.and_eq_true, Option.isNone_iff_eq_none] at h; exact h
theorem rdB_alloc {o : Oper} (h : isRead o.op = true) : isAlloc o = false := by
  obtain ⟨d, op, t, p, a, g⟩ := o
  cases op <;> first | (cases h; done) | (cases g <;> rfl)
theorem cvB_eq {P : Program} {o : Oper} (h : cvB P o = true) : isConv o.op = true ∧ scalarConv P o.op = true ∧ o.guard = none := by
  unfold cvB at h
  rw [Bool.and_eq_true, Bool.and_eq_true, Option.isNone_iff_eq_none] at h; exact h
theorem cvB_alloc {o : Oper} (h : isConv o.op = true) : isAlloc o = false := by
  obtain ⟨d, op, t, p, a, g⟩ := o
  cases op <;> first | (cases h; done) | (cases g <;> rfl)
theorem xqB_eq {nt : Nat} {o : Oper} (h : xqB nt o = true) : isRead o.op = false ∧ isConv o.op = false ∧ isAlloc o = false ∧ dstOk nt o.dst = true := by
  unfold xqB at h
  simpa using h
section
variable {P : Program} {nt : Nat} {ops : Array Oper} {i n : Nat} {o : Oper} {l : List Oper} {os : List Nat} {early : List (Nat × Oper × Nat)} {tm : T AV} {h : H} {Q : T AV → H → Prop}
theorem ke_rd {b : Nat} (ha : rdB o = true) (hw : exW P (execA P tm h o.op) (sK nt tm o.dst)) (hl : eOk P nt ops tm h early) : eOk P nt ops tm h ((i, o, b) :: early) :=
  eok_read (rdB_alloc (rdB_eq ha).1) (rdB_eq ha).1 (rdB_eq ha).2 hw hl
theorem ke_rg {b : Nat} {g : Nat × Bool} (ha : isRead o.op = true) (hg : o.guard = some g) (hw : gX (guardV tm ops g) (exW P (execA P tm h o.op) (sK nt tm o.dst)) (slotV nt tm o.dst und)) (hl : eOk P nt ops tm h early) : eOk P nt ops tm h ((i, o, b) :: early) :=
  eok_readg (rdB_alloc ha) ha hg hw hl
theorem ke_cv {b : Nat} (_hx : isConv o.op = true) (ha : cvB P o = true) (hw : exW P (execA P tm h o.op) (sK nt tm o.dst)) (hl : eOk P nt ops tm h early) : eOk P nt ops tm h ((i, o, b) :: early) :=
  eok_conv (cvB_alloc (cvB_eq ha).1) (cvB_eq ha).1 (cvB_eq ha).2.1 (cvB_eq ha).2.2 hw hl
theorem ke_al {b : Nat} {t : TypeId} (ha : isAlloc o = true) (ho : o.op = .alloc t) (hz : zF (zeroA P t) t (h.t.get b)) (hs : slotV nt tm o.dst (.ptr b 0)) (hl : eOk P nt ops tm h early) : eOk P nt ops tm h ((i, o, b) :: early) :=
  eok_alloc' ha ho hz hs hl
theorem kI_nl (hq : Q tm h) (he : eOk P nt ops tm h early) : drawI P nt ops i [] early tm h Q := dI_nil he hq
theorem kI_rd (ha : rdB o = true) (hw : exW P (execA P tm h o.op) (dK P nt ops (i + 1) o.dst l ((i, o, 0) :: early) tm Q)) : drawI P nt ops i (o :: l) early tm h Q := dI_read (rdB_eq ha).1 (rdB_eq ha).2 hw
theorem kI_rg {g : Nat × Bool} (hk : isRead o.op = true) (hg : o.guard = some g) (hw : gX (guardV tm ops g) (exW P (execA P tm h o.op) (dK P nt ops (i + 1) o.dst l ((i, o, 0) :: early) tm Q)) (dK P nt ops (i + 1) o.dst l ((i, o, 0) :: early) tm Q und h)) :
    drawI P nt ops i (o :: l) early tm h Q := dI_readg hk hg hw
theorem kI_cv (_hx : isConv o.op = true) (ha : cvB P o = true) (hw : exW P (execA P tm h o.op) (dK P nt ops (i + 1) o.dst l ((i, o, 0) :: early) tm Q)) : drawI P nt ops i (o :: l) early tm h Q := dI_conv (cvB_eq ha).1 (cvB_eq ha).2.1 (cvB_eq ha).2.2 hw
theorem kI_al {t : TypeId} (ha : isAlloc o = true) (ho : o.op = .alloc t) (hw : exW P (execA P tm h (.alloc t)) (dK P nt ops (i + 1) o.dst l ((i, o, h.nx) :: early) tm Q)) : drawI P nt ops i (o :: l) early tm h Q := dI_alloc ha ho hw
theorem kI_ex (ha : xqB nt o = true) (h4 : chainB i [i] (idxd (i + 1) l) = true) (hg : o.guard = none) (hw : exW P (execA P tm h o.op) (dK P nt ops (i + 1) o.dst l (dropF (edgesOf o.after.toList) early) tm Q)) (he : eOk P nt ops tm h early) :
    drawI P nt ops i (o :: l) early tm h Q := dI_exec (xqB_eq ha).1 (xqB_eq ha).2.1 (xqB_eq ha).2.2.1 h4 (xqB_eq ha).2.2.2 hg he hw
theorem kI_eg {g : Nat × Bool} (ha : xqB nt o = true) (h4 : chainB i [i] (idxd (i + 1) l) = true) (hg : o.guard = some g)
    (hw : gX (guardV tm ops g) (exW P (execA P tm h o.op) (dK P nt ops (i + 1) o.dst l (dropF (edgesOf o.after.toList) early) tm Q)) (dK P nt ops (i + 1) o.dst l (dropF (edgesOf o.after.toList) early) tm Q und h)) (he : eOk P nt ops tm h early) :
    drawI P nt ops i (o :: l) early tm h Q := dI_execg (xqB_eq ha).1 (xqB_eq ha).2.1 (xqB_eq ha).2.2.1 h4 (xqB_eq ha).2.2.2 hg he hw
theorem kP_nl (hq : Q tm h) (he : eOk P nt ops tm h early) : drawP P nt ops l [] early tm h Q := dP_nil he hq
theorem kP_rd (hn : nthO l n = some o) (ha : rdB o = true) (hw : exW P (execA P tm h o.op) (pK P nt ops l os o.dst ((n, o, 0) :: early) tm Q)) : drawP P nt ops l (n :: os) early tm h Q := dP_read hn (rdB_eq ha).1 (rdB_eq ha).2 hw
theorem kP_rg {g : Nat × Bool} (hn : nthO l n = some o) (hk : isRead o.op = true) (hg : o.guard = some g) (hw : gX (guardV tm ops g) (exW P (execA P tm h o.op) (pK P nt ops l os o.dst ((n, o, 0) :: early) tm Q)) (pK P nt ops l os o.dst ((n, o, 0) :: early) tm Q und h)) :
    drawP P nt ops l (n :: os) early tm h Q := dP_readg hn hk hg hw
theorem kP_cv (hn : nthO l n = some o) (_hx : isConv o.op = true) (ha : cvB P o = true) (hw : exW P (execA P tm h o.op) (pK P nt ops l os o.dst ((n, o, 0) :: early) tm Q)) : drawP P nt ops l (n :: os) early tm h Q := dP_conv hn (cvB_eq ha).1 (cvB_eq ha).2.1 (cvB_eq ha).2.2 hw
theorem kP_al {t : TypeId} (hn : nthO l n = some o) (ha : isAlloc o = true) (ho : o.op = .alloc t) (hw : exW P (execA P tm h (.alloc t)) (pK P nt ops l os o.dst ((n, o, h.nx) :: early) tm Q)) : drawP P nt ops l (n :: os) early tm h Q := dP_alloc hn ha ho hw
theorem kP_ex (hn : nthO l n = some o) (ha : xqB nt o = true) (h4 : chainB n [n] (pickL l os) = true) (hg : o.guard = none) (hw : exW P (execA P tm h o.op) (pK P nt ops l os o.dst (dropF (edgesOf o.after.toList) early) tm Q)) (he : eOk P nt ops tm h early) :
    drawP P nt ops l (n :: os) early tm h Q := dP_exec hn (xqB_eq ha).1 (xqB_eq ha).2.1 (xqB_eq ha).2.2.1 h4 (xqB_eq ha).2.2.2 hg he hw
theorem kP_eg {g : Nat × Bool} (hn : nthO l n = some o) (ha : xqB nt o = true) (h4 : chainB n [n] (pickL l os) = true) (hg : o.guard = some g)
    (hw : gX (guardV tm ops g) (exW P (execA P tm h o.op) (pK P nt ops l os o.dst (dropF (edgesOf o.after.toList) early) tm Q)) (pK P nt ops l os o.dst (dropF (edgesOf o.after.toList) early) tm Q und h)) (he : eOk P nt ops tm h early) :
    drawP P nt ops l (n :: os) early tm h Q := dP_execg hn (xqB_eq ha).1 (xqB_eq ha).2.1 (xqB_eq ha).2.2.1 h4 (xqB_eq ha).2.2.2 hg he hw
theorem kP_fl (hn : nthO l n = some o) (hf : flB o = true) (h4 : chainB n [n] (pickL l os) = false) (hg : gO tm ops o.guard)
    (hx : fX (fresh2 P tm o.op) fun t r k => pK P nt ops l os o.dst ((n, o, h.nx) :: early) tm Q (.slice h.nx 0 k (.exact k)) (h.newCells t r)) : drawP P nt ops l (n :: os) early tm h Q := dP_float hn (flB_eq hf).1 (flB_eq hf).2 h4 hg hx
theorem ke_fl {b : Nat} (hf : flB o = true) (hg : gO tm ops o.guard) (hx : fX (fresh2 P tm o.op) (fun t l n => freshIs t l (h.t.get b) = true ∧ slotV nt tm o.dst (.slice b 0 n (.exact n)))) (hl : eOk P nt ops tm h early) : eOk P nt ops tm h ((i, o, b) :: early) :=
  eok_float (flB_eq hf).2 (flB_eq hf).1 hg hx hl
theorem xB : ((type_of% @dK_def) ∧ (type_of% @gX_true) ∧ (type_of% @gX_false) ∧ (type_of% @sK_def) ∧ (type_of% @slotV_some) ∧ (type_of% @slotV_none) ∧ (type_of% @zF_some) ∧ (type_of% @pK_def) ∧ (type_of% @gO_none) ∧ (type_of% @gO_some) ∧ (type_of% @fX_some) ∧ (type_of% @obf_some) ∧ (type_of% @fresh2_bs) ∧ (type_of% @rowSR_ok) ∧ (type_of% @rowS_C)) :=
  ⟨@dK_def, @gX_true, @gX_false, @sK_def, @slotV_some, @slotV_none, @zF_some, @pK_def, @gO_none, @gO_some, @fX_some, @obf_some, @fresh2_bs, @rowSR_ok, @rowS_C⟩
theorem gWt {o : Op} {d : Option Tmp} {l : List Oper} {b : Bool} (h1 : b = true → exW P (execA P tm h o) (opK P nt ops d l tm Q)) (h2 : b = false → opK P nt ops d l tm Q und h) : gW P (some (b == true)) nt ops o d l tm h Q := by
  cases b
  · exact h2 rfl
  · exact h1 rfl
theorem gWf {o : Op} {d : Option Tmp} {l : List Oper} {b : Bool} (h1 : b = true → opK P nt ops d l tm Q und h) (h2 : b = false → exW P (execA P tm h o) (opK P nt ops d l tm Q)) : gW P (some (b == false)) nt ops o d l tm h Q := by
  cases b
  · exact h2 rfl
  · exact h1 rfl
theorem gXt {b : Bool} {p q : Prop} (h1 : b = true → p) (h2 : b = false → q) : gX (some (b == true)) p q := by
  cases b
  · exact h2 rfl
  · exact h1 rfl
theorem gXf {b : Bool} {p q : Prop} (h1 : b = true → q) (h2 : b = false → p) : gX (some (b == false)) p q := by
  cases b
  · exact h2 rfl
  · exact h1 rfl
theorem iB {b : Bool} {p q : Prop} (h1 : b = true → p) (h2 : b = false → q) : ifB b p q := ⟨h1, h2⟩
end
end
end Go.AX

namespace Go.AX
noncomputable section
open Go Go.RowKit
def fieldsOf (P : Program) (t : TypeId) : Array Field :=
  match P.underlying t with
  | some (.struct fs) => fs
  | _ => #[]
def fieldIn (fs : Array Field) (i : Nat) (ty : TypeId) (off : Nat) : Bool :=
  match fs[i]? with
  | some f => Nat.beq f.type ty && Nat.beq f.offset off
  | none => false
section
variable {P : Program} {K : Type} {enc : TypeId × Value → K} {w : World} {b : Nat} {sp : Nat → Bool} {hd : Bool}
theorem trod_field {t ty : TypeId} {fs : Array Field} {i off fuel : Nat} {cs : List Value} {x : DataW K × List MemPlace} (hu : P.underlying t = some (.struct fs)) (hf : fieldIn fs i ty off = true) (h : DataW.trod enc P w b sp hd fuel t cs = some x) :
    cs.length = P.cellsOf t ∧ ∃ n y, DataW.trod enc P w b sp hd n ty ((cs.drop off).take (P.cellsOf ty)) = some y := by
  obtain ⟨xs, n, _, _, hl, hlen, hx⟩ := DataW.trod_struct hu h
  unfold fieldIn at hf
  split at hf
  · rename_i f hfi
    rw [Bool.and_eq_true] at hf
    have e1 := Nat.eq_of_beq_eq_true hf.1
    have e2 := Nat.eq_of_beq_eq_true hf.2
    have := hx i f hfi
    rw [e1, e2] at this
    have hi : i < fs.size := (Array.getElem?_eq_some_iff.1 hfi).1
    rw [List.getElem?_eq_getElem (by omega)] at this
    exact ⟨hl, n, _, this⟩
  · cases hf
theorem trod_nat {t : TypeId} {k : IntKind} (hk : k.signed = false) (ht : P.underlying t = some (.int k)) {fuel : Nat} {cs : List Value} {x : DataW K × List MemPlace} (h : DataW.trod enc P w b sp hd fuel t cs = some x) : ∃ m : Nat, cs = [.int k (.ofNat m)] ∧ m < modF k := by
  obtain ⟨n, rfl, _, hw⟩ := DataW.trod_int ht h
  obtain ⟨m, rfl, hm⟩ := wf_nat hk hw
  exact ⟨m, rfl, hm⟩
def natV (p : IntKind × Nat) : Value := .int p.1 (.ofNat p.2)
def natA (p : IntKind × Nat) : AV := .int p.1 (.ofNat p.2)
end
theorem choose_list {α : Type} {p : Nat → α → Prop} : ∀ n, (∀ i, i < n → ∃ y, p i y) → ∃ l : List α, l.length = n ∧ ∀ i y, l[i]? = some y → p i y
  | 0, _ => ⟨[], rfl, fun i y h => by simp at h⟩
  | n + 1, h => by
    obtain ⟨l, q1, q2⟩ := choose_list n (fun i hi => h i (by omega))
    obtain ⟨y, hy⟩ := h n (by omega)
    refine ⟨l ++ [y], by simp [q1], fun i z hz => ?_⟩
    by_cases q : i < l.length
    · rw [List.getElem?_append_left q] at hz; exact q2 i z hz
    · rw [List.getElem?_append_right (by omega)] at hz
      have hi : i - l.length = 0 := by
        rcases Nat.eq_zero_or_pos (i - l.length) with e | e
        · exact e
        · rw [List.getElem?_eq_none (by simp; omega)] at hz; cases hz
      rw [hi] at hz; cases hz
      rw [show i = n by omega]; exact hy
theorem flat_at' {α β : Type} (f : α → List β) (k : Nat) : ∀ (l : List α), (∀ a, a ∈ l → (f a).length = k) → ∀ i j x, l[i]? = some x → j < k → (l.flatMap f)[i * k + j]? = (f x)[j]?
  | [], _, i, j, x, h, _ => by simp at h
  | a :: l, hf, 0, j, x, h, hj => by
    simp at h; subst h
    simp only [List.flatMap_cons, Nat.zero_mul, Nat.zero_add]
    rw [List.getElem?_append_left (by rw [hf a (by simp)]; exact hj)]
  | a :: l, hf, i + 1, j, x, h, hj => by
    have hfa := hf a (by simp)
    simp only [List.flatMap_cons]
    rw [List.getElem?_append_right (by rw [hfa, Nat.add_mul]; omega), hfa, show (i + 1) * k + j - k = i * k + j by rw [Nat.add_mul]; omega]
    exact flat_at' f k l (fun a ha => hf a (List.mem_cons_of_mem _ ha)) i j x (by simpa using h) hj
theorem flat_len' {α β : Type} (f : α → List β) (k : Nat) : ∀ (l : List α), (∀ a, a ∈ l → (f a).length = k) → (l.flatMap f).length = l.length * k
  | [], _ => by simp
  | a :: l, hf => by rw [List.flatMap_cons, List.length_append, hf a (by simp), flat_len' f k l (fun a ha => hf a (List.mem_cons_of_mem _ ha)), List.length_cons, Nat.add_mul]; omega
theorem rows_arg {α : Type} {P : Program} {K : Type} {enc : TypeId × Value → K} {w : World} {t e : TypeId} {size : Nat} (ht : P.underlying t = some (.slice e)) (hc : P.cellsOf e = size) (hs : 0 < size) (f : α → List (IntKind × Nat)) (ok : α → Prop)
    (hdec : ∀ (n : Nat) (cs : List Value) (x : DataW K × List MemPlace), DataW.trod enc P w 0 (fun _ => true) true n e cs = some x → ∃ a, ok a ∧ cs = (f a).map natV)
    {r : Go.Reach} {b0 : Nat} {v : Value} (hval : Value.okWide P w r b0 t v) {d : DataW K} {ps : List MemPlace} (hd : DataW.Trod enc P w 0 (fun _ => true) true t v d ps) :
    ∃ (av : AV) (l : List α), VR (absPhi w.heap.size) av v ∧ SliceAt (absH w) av l.length (l.flatMap fun a => (f a).map natA) ∧ (∀ a, a ∈ l → ok a) ∧ l.length ≤ maxLen ∧ ∀ a, a ∈ l → (f a).length = size := by
  obtain ⟨fuel, hf⟩ := hd
  obtain ⟨a0, len0, cap0, rfl⟩ := WideShapes.okWide_slice ht hval
  rcases Go.Deep.open_slice ht hf with ⟨h1, _⟩ | ⟨a, len, cap, m, n, D, Pl, h1, _, h2, h2m, hm, _, hx⟩
  · simp [Value.cells] at h1
    obtain ⟨rfl, rfl, rfl⟩ := h1
    exact ⟨.nilslice, [], by simp, .none, (fun z hz => absurd hz List.not_mem_nil), by simp, fun z hz => absurd hz List.not_mem_nil⟩
  · simp [Value.cells] at h1
    obtain ⟨rfl, rfl, rfl⟩ := h1
    simp only [if_true] at hm
    have hel : ∀ i, i < len0 → ∃ y, ok y ∧ w.cells? 0 (a.add (i * size)) size = some ((f y).map natV) := fun i hi => by
      obtain ⟨cs', q1, q2⟩ := hx i (by omega)
      obtain ⟨y, hy, rfl⟩ := hdec _ _ _ q2
      rw [hc] at q1
      exact ⟨y, hy, q1⟩
    obtain ⟨l, hll, hl⟩ := choose_list (p := fun i y => ok y ∧ w.cells? 0 (a.add (i * size)) size = some ((f y).map natV)) len0 hel
    have hok : ∀ y, y ∈ l → ok y := fun y hy => by
      obtain ⟨i, hi⟩ := List.mem_iff_getElem?.1 hy
      exact (hl i y hi).1
    have hsz : ∀ y, y ∈ l → (f y).length = size := fun y hy => by
      obtain ⟨i, hi⟩ := List.mem_iff_getElem?.1 hy
      obtain ⟨_, q, _⟩ := World.cells?_some (hl i y hi).2
      simpa using q
    by_cases hz : len0 = 0
    · obtain rfl : l = [] := List.length_eq_zero_iff.1 (by omega)
      subst hz
      exact ⟨.slice0, [], by simp, .zero, (fun z hz => absurd hz List.not_mem_nil), by simp, fun z hz => absurd hz List.not_mem_nil⟩
    · have hcell : ∀ i y j, l[i]? = some y → j < size → w.cell? (a.add (i * size + j)) = ((f y).map natV)[j]? := fun i y j hi hj => by
        obtain ⟨_, _, q⟩ := World.cells?_some (hl i y hi).2
        have := q j hj
        have e : (a.add (i * size)).add j = a.add (i * size + j) := by
          unfold Addr.add
          by_cases c1 : i * size = 0
          · simp [c1]
          · by_cases c2 : j = 0
            · simp [c2]
            · simp [c1, c2, Nat.add_assoc]
        rw [e] at this; exact this
      obtain ⟨y0, hy0⟩ : ∃ y, l[0]? = some y := ⟨_, List.getElem?_eq_getElem (by omega)⟩
      have h0 := hcell 0 y0 0 hy0 hs
      have hy0l := hsz y0 (List.mem_of_getElem? hy0)
      rw [List.getElem?_map, List.getElem?_eq_getElem (by omega)] at h0
      have ha : a.spot = none ∧ a.block < w.heap.size := by
        have hb := World.block_lt_of_cell? w _ h0
        have : (a.add (0 * size + 0)) = a := by simp [Addr.add]
        rw [this] at h0 hb
        refine ⟨?_, hb⟩
        unfold World.cell? at h0
        cases hx : w.heap[a.block]? with
        | none => rw [hx] at h0; cases h0
        | some x =>
          rw [hx] at h0
          cases x with
          | cells c t f =>
            simp only at h0
            cases hs : a.spot with
            | none => rfl
            | some q => rw [hs] at h0; simp at h0
          | _ => cases h0
      obtain ⟨B, o, sp⟩ := a
      obtain ⟨rfl, hB⟩ := ha
      simp only at hB
      refine ⟨.slice B o len0 (.exact cap0), l, ?_, ?_, hok, by omega, hsz⟩
      · rw [VR_sliceEx]; exact ⟨⟨B, 0, 0⟩, by unfold absPhi; rw [if_pos hB], by simp⟩
      · rw [hll]
        have hfl : ∀ y, y ∈ l → ((f y).map natA).length = size := fun y hy => by rw [List.length_map]; exact hsz y hy
        refine .cell B o len0 _ _ hB (fun i hi => ?_)
        rw [flat_len' _ size l hfl] at hi
        obtain ⟨q, r, rfl, hr⟩ : ∃ q r, i = q * size + r ∧ r < size := ⟨i / size, i % size, by rw [Nat.mul_comm]; exact (Nat.div_add_mod i size).symm, Nat.mod_lt _ hs⟩
        have hq : q < l.length := by
          rcases Nat.lt_or_ge q l.length with e | e
          · exact e
          · have := Nat.mul_le_mul_right size e; omega
        obtain ⟨y, hy⟩ : ∃ y, l[q]? = some y := ⟨_, List.getElem?_eq_getElem hq⟩
        have hc2 := hcell q y r hy hr
        have hyl := hsz y (List.mem_of_getElem? hy)
        have e1 : (⟨B, o, none⟩ : Addr).add (q * size + r) = ⟨B, o + (q * size + r), none⟩ := by
          unfold Addr.add
          split
          · rename_i q1; rw [q1]; rfl
          · rfl
        rw [e1, List.getElem?_map, List.getElem?_eq_getElem (by omega)] at hc2
        rw [flat_at' _ size l hfl q r y hy hr, absH_cell hc2 rfl, List.getElem?_map, List.getElem?_eq_getElem (by omega)]; rfl
end
end Go.AX


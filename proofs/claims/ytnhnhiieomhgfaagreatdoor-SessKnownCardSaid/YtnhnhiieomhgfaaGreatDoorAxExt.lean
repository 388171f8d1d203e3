/-
  AX: hooks: functions without a body; strings.Repeat.
-/
import Derived.Test.YtnhnhiieomhgfaaGreatDoorAxChunk
import Derived.Lib.MakeNoZero
import Derived.Lib.Repeat
namespace Go.AX
noncomputable section
open Go.RowKit

/-- The model's entry for a function without a body. -/
def ExtIs (P : Program) (f : FuncId) (e : Array Value → Sem Value) : Prop :=
  ∃ fn, P.funcs[f]? = some fn ∧ (fn.name == "runtime.NumGoroutine") = false ∧ fn.body = none ∧ Extern.findNext fn = none ∧ Extern.find fn = some e

theorem ext_run {P : Program} {f : FuncId} {e : Array Value → Sem Value} (h : ExtIs P f e) (args : Array Value) (w : World) :
    (callFunc f args).run P w = ((e args).run P w).andThen fun v w' => .ok (.value v) w' := by
  obtain ⟨fn, h1, h2, h3, h4, h5⟩ := h
  simp only [callFunc, Sem.run_bind, run_program, Result.andThen_ok, h1, h2, h3, h4, h5, Bool.false_eq_true, if_false, Option.isNone_none, if_true, run_mark, Sem.run_pure]

def noEscapeExt (f0 : FuncId) (f : FuncId) (args : List AV) (h : H) : Option (AV × H) :=
  match Nat.beq f f0 with
  | true => match args with
    | [v] => some (v, h)
    | _ => none
  | false => none

def noEscapeHook (f0 : FuncId) : Hook := ⟨fun _ _ _ => none, noEscapeExt f0⟩

theorem noEscapeHook_ok {P : Program} {f0 : FuncId} (he : ExtIs P f0 Extern.AbiNoEscape.same) : HookOk P (noEscapeHook f0) := by
  refine ⟨fun _ _ _ _ _ h => (by cases h), ?_⟩
  intro f args h v h' hk N φ w cargs hr hN ha
  unfold noEscapeHook noEscapeExt at hk
  simp only at hk
  split at hk
  · rename_i hf
    have hf := Nat.eq_of_beq_eq_true hf; subst hf
    split at hk
    · cases hk
      obtain ⟨c, cs, hc, h1, h2⟩ := All2.cons_left.1 ha
      have := All2.nil_left.1 h2; subst this
      have hca : cargs = #[c] := by cases cargs; simp_all
      subst hca
      refine ⟨φ, c, w, ?_, φ.le_refl, h1, hr, Below.refl _ _⟩
      rw [ext_run he]; rfl
    · cases hk
  · cases hk

def makeExt (f0 : FuncId) (e : TypeId) (f : FuncId) (args : List AV) (h : H) : Option (AV × H) :=
  match Nat.beq f f0 with
  | true => match args with
    | [.int .i64 (.ofNat n)] => match small n with
      | true => some (.slice h.nx 0 n (.opn 0), h.alloc (.cells 0 .e ⟨1, e + 1⟩ false))
      | false => none
    | _ => none
  | false => none

def makeHook (f0 : FuncId) (e : TypeId) : Hook := ⟨fun _ _ _ => none, makeExt f0 e⟩

theorem makeHook_ok {P : Program} {f0 : FuncId} {t e : TypeId} {ps : Array TypeId} (ht : P.underlying t = some (.slice e)) (he : ExtIs P f0 (Extern.BytealgMakeNoZero.makeNoZero ps #[t])) : HookOk P (makeHook f0 e) := by
  refine ⟨fun _ _ _ _ _ h => (by cases h), ?_⟩
  intro f args h v h' hk N φ w cargs hr hN ha
  unfold makeHook makeExt at hk
  simp only at hk
  split at hk
  · rename_i hf
    have hf := Nat.eq_of_beq_eq_true hf; subst hf
    split at hk
    · rename_i n
      split at hk
      · rename_i hn
        cases hk
        have hn := small_le hn
        obtain ⟨c, cs, hc, h1, h2⟩ := All2.cons_left.1 ha
        have := All2.nil_left.1 h2; subst this
        simp only [VR_int] at h1; subst h1
        have hca : cargs = #[.int .i64 (Int.ofNat n)] := by cases cargs; simp_all
        subst hca
        obtain ⟨cells, q1, q2, _⟩ := Lib.run_makeNoZero (P := P) w ps t e ht n (by omega)
        have hpush := hr.push (w' := w.drew.drew.alloc (.cells cells e)) (.cells cells e) 0 cells.size (.cells 0 .e ⟨1, e + 1⟩ false) rfl
          (by
            refine ⟨cells, e, (0, 0), ?_, Nat.zero_le _, ?_, ?_, ?_, ?_, fun _ => rfl⟩
            · show (w.heap.push (.cells cells e))[w.heap.size]? = _
              simp
            · intro i v hi; cases hi
            · intro _; exact ⟨hN, fun i _ hh => by omega⟩
            · intro _; simp
            · intro e0; cases e0)
        refine ⟨_, .slice (some ⟨w.heap.size, 0, none⟩) n cells.size, w.drew.drew.alloc (.cells cells e), ?_, hpush.2, ?_, hpush.1, ?_⟩
        · rw [ext_run he]
          have : (Int.ofNat n) = ((n : Nat) : Int) := rfl
          rw [this, q1]; rfl
        · rw [VR_sliceOp]
          exact ⟨_, Phi.ins_same _ _ _, by simp, by simpa using q2⟩
        · exact ⟨rfl, rfl, rfl, by show w.heap.size ≤ (w.heap.push _).size; simp, fun k hk => by
            show (w.heap.push _)[k]? = _
            rw [Array.getElem?_push, if_neg (by omega)]⟩
      · cases hk
    · cases hk
  · cases hk

/-! ## strings.Repeat -/

def repL (l : List Nat) : Nat → List Nat
  | 0 => []
  | c + 1 => l ++ repL l c

theorem repL_nats (l : List UInt8) : ∀ c, repL (nats l) c = nats (Lib.repeatL l c)
  | 0 => rfl
  | c + 1 => by
    have := repL_nats l c
    simp only [repL, Lib.repeatL, this]
    simp only [nats, List.map_append]

def RepeatOk (P : Program) (f0 : FuncId) : Prop :=
  ∀ (s : ByteArray) (c : Nat) (w : World), c ≤ 9223372036854775807 → s.size * c ≤ 140737488355328 →
    Calls P f0 #[.string s, .int .i64 c] w fun e w' => e = .returned (.string ⟨(Lib.repeatL s.data.toList c).toArray⟩) ∧ Below w.heap.size w w'

def repeatCall (f0 : FuncId) (f : FuncId) (args : List AV) (h : H) : Option (AV × H) :=
  match Nat.beq f f0 with
  | true => match args with
    | [.str s, .int .i64 (.ofNat n)] => match small n && small (s.length * n) with
      | true => some (.str (repL s n), h)
      | false => none
    | _ => none
  | false => none

def repeatHook (f0 : FuncId) : Hook := ⟨repeatCall f0, fun _ _ _ => none⟩

theorem repeatHook_ok {P : Program} {f0 : FuncId} (hc : RepeatOk P f0) : HookOk P (repeatHook f0) := by
  refine ⟨?_, fun _ _ _ _ _ h => (by cases h)⟩
  intro f args h v h' hk N φ w cargs hr hN ha
  unfold repeatHook repeatCall at hk
  simp only at hk
  split at hk
  · rename_i hf
    have hf := Nat.eq_of_beq_eq_true hf; subst hf
    split at hk
    · rename_i s n
      split at hk
      · rename_i hn
        cases hk
        simp only [Bool.and_eq_true] at hn
        have h1 := small_le hn.1
        have h2 := small_le hn.2
        obtain ⟨c, cs, hcs, q1, q2⟩ := All2.cons_left.1 ha
        obtain ⟨c2, cs2, hcs2, q3, q4⟩ := All2.cons_left.1 q2
        have := All2.nil_left.1 q4; subst this; subst hcs2
        simp only [VR_int] at q3; subst q3
        simp only [VR_str] at q1; obtain ⟨b, rfl, hb⟩ := q1
        have hca : cargs = #[.string b, .int .i64 (Int.ofNat n)] := by cases cargs; simp_all
        subst hca
        have hs : nats b.data.toList = s := hb
        have hsz : s.length = b.size := by rw [← hs]; simp [nats]
        refine (hc b n w (by omega) (by rw [← hsz]; omega)).mono ?_
        rintro e w' ⟨rfl, hbl⟩
        refine ⟨φ, _, rfl, φ.le_refl, ?_, hr.below hbl, Below.mono hbl hN⟩
        rw [VR_str]
        refine ⟨_, rfl, ?_⟩
        rw [← hs, repL_nats]
        simp [bytesOf, nats]
      · cases hk
    · cases hk
  · cases hk

/-! ## package-level variables at the start -/

/-- A heap with one variable: a table of numbers. -/
def tabH (n g : Nat) (k : IntKind) (zs : List Int) : H := ⟨(T.e : T AObj).set g (some (.cells zs.length (T.fill .e 0 (zs.map (AV.int k))) ⟨0, 0⟩ true)), n, n⟩

def globPhi (n : Nat) : Phi := fun b => if b < n then some ⟨b, 0, 0⟩ else none

theorem HR_tab {n g : Nat} {k : IntKind} {zs : List Int} {w : World} {c : Array Value} {t : TypeId} {frz : Nat × Nat} (hg : g < n) (hb : w.heap[g]? = some (.cells c t frz)) (hc : c.toList = zs.map (Value.int k)) :
    HR ⟨w.heap.size, fun _ => none⟩ (globPhi n) (tabH n g k zs) w := by
  have hcs : c.size = zs.length := by rw [← Array.length_toList, hc, List.length_map]
  refine ⟨fun b o hbo _ => ?_, fun b o b' o' L L' hbo hbo' hL hL' e => ?_, fun b hb' => ?_, fun b hb' => absurd rfl hb', fun b hb' => ?_⟩
  · simp only [tabH, T.get_set, T.get_e'] at hbo
    split at hbo
    · rename_i e; subst e; cases hbo
      refine ⟨⟨b, 0, 0⟩, by simp [globPhi, hg], c, t, frz, hb, by simp [hcs], fun i v hv => ?_, fun e => (by cases e), fun e => absurd rfl e, fun _ => rfl, fun e => absurd rfl e⟩
      rw [T.get_fill0, List.getElem?_map] at hv
      cases hz : zs[i]? with
      | none => rw [hz] at hv; cases hv
      | some z =>
        rw [hz] at hv; cases hv
        refine ⟨(List.getElem?_eq_some_iff.1 hz).1, rfl, .int k z, ?_, VR_int.2 rfl⟩
        simp only [Nat.zero_add]
        rw [← Array.getElem?_toList, hc, List.getElem?_map, hz]; rfl
    · cases hbo
  · simp only [tabH, T.get_set, T.get_e'] at hbo hbo'
    split at hbo
    · rename_i x
      split at hbo'
      · rename_i y; rw [x, y]
      · cases hbo'
    · cases hbo
  · have : n ≤ b := hb'
    simp [globPhi]; omega
  · have : b < n := hb'
    simp [globPhi, this]

theorem calls_true_from {P : Program} {K : Hook} (hK : HookOk P K) {n : Nat} {f : FuncId} {fr0 : AFrame} {s : S} {h0 : H} {φ : Phi} (hen : enterA P f [] .normal = some fr0) (hre : Reach P { fr := fr0, cs := [], h := h0 } s)
    (h : yes (runA P K f n s) = true) {w : World} (hr : HR ⟨w.heap.size, fun _ => none⟩ φ h0 w) : Calls P f #[] w fun e w' => e = .returned (.bool true) ∧ Below w.heap.size w w' := by
  unfold yes at h
  split at h
  · rename_i h' hc
    refine (calls_of_reach hK hen hre hc hr (Nat.le_refl _) (cargs := #[]) trivial).mono ?_
    rintro e w' ⟨N', φ', cv, _, he, _, hv, _, hb⟩
    rw [VR_bool] at hv; subst hv
    exact ⟨he, hb⟩
  · cases h

end
end Go.AX

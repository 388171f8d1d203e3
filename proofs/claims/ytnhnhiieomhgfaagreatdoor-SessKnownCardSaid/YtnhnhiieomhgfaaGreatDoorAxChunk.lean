/-
  AX: a run in pieces: from one state to another one, what is of no use any more struck between.
-/
import Derived.Test.YtnhnhiieomhgfaaGreatDoorAxGround
import Derived.Test.YtnhnhiieomhgfaaGreatDoorAxClosed
namespace Go.AX
noncomputable section
open Go.RowKit

/-- Some steps. -/
def runS (P : Program) (K : Hook) (n : Nat) : S → Option S :=
  Nat.rec (motive := fun _ => S → Option S) (fun s => some s) (fun _ ih s => match stepA P K s with
    | some s => ih s
    | none => none) n

def dropL (h : H) : List Nat → H
  | [] => h
  | b :: l => dropL { h with t := h.t.set b none } l

/-- Only these are left. -/
def keepT {α : Type} (t : T α) : List Nat → T α
  | [] => .e
  | b :: l => (keepT t l).set b (t.get b)

def keepS (s : S) (l : List Nat) : S := { s with h := { s.h with t := keepT s.h.t l } }

/-- A part of a piece of code. -/
def codeIn : Code → List Nat → Code
  | c, [] => c
  | .seq a b, i :: l => match i with
    | 0 => codeIn a l
    | _ => codeIn b l
  | .cond _ a b, i :: l => match i with
    | 0 => codeIn a l
    | _ => codeIn b l
  | .block _ c, _ :: l => codeIn c l
  | .loop c, _ :: l => codeIn c l
  | .scope c, _ :: l => codeIn c l
  | .rangeFunc _ _ a b, i :: l => match i with
    | 0 => codeIn a l
    | _ => codeIn b l
  | c, _ :: _ => c

def bodyOf (P : Program) (f : FuncId) : Code :=
  match P.funcs[f]? with
  | some fn => match fn.body with
    | some c => c
    | none => .skip
  | none => .skip

def codeAt (P : Program) (f : FuncId) (l : List Nat) : Code := codeIn (bodyOf P f) l

def regionOf : Code → Array Oper
  | .region _ ops _ => ops
  | _ => #[]

def opsAt (P : Program) (f : FuncId) (l : List Nat) : Array Oper := regionOf (codeAt P f l)

def opersOf (l : List Oper) : List Nat → List (Nat × Oper)
  | [] => []
  | i :: r => match l[i]? with
    | some o => (i, o) :: opersOf l r
    | none => opersOf l r

def earlyOf (l : List Oper) : List (Nat × Nat) → List (Nat × Oper × Nat)
  | [] => []
  | (i, b) :: r => match l[i]? with
    | some o => (i, o, b) :: earlyOf l r
    | none => earlyOf l r

def drawAt (ops : Array Oper) (rem : List Nat) (early : List (Nat × Nat)) (wait : Bool) : Draw := ⟨ops, opersOf ops.toList rem, earlyOf ops.toList early, wait⟩

section
variable {P : Program} {K : Hook}

def Reach (P : Program) (s s' : S) : Prop :=
  ∀ (N : NN) (w0 : World) (bot : List Frame) (φ : Phi) (fr : Frame) (cs : List Frame) (w : World), SR N w0 φ s fr cs w → GoesN P N w0 bot φ fr cs w s'

theorem Reach.refl (s : S) : Reach P s s := fun N _ _ φ fr cs w hs => ⟨N, φ, fr, cs, w, rfl, φ.le_refl, Steps.refl P _, hs⟩

theorem Reach.trans {a b c : S} (h : Reach P a b) (k : Reach P b c) : Reach P a c := fun N w0 bot φ fr cs w hs => by
  obtain ⟨N1, φ1, fr1, cs1, w1, e1, l1, st1, sr1⟩ := h N w0 bot φ fr cs w hs
  obtain ⟨N2, φ2, fr2, cs2, w2, e2, l2, st2, sr2⟩ := k N1 w0 bot φ1 fr1 cs1 w1 sr1
  exact ⟨N2, φ2, fr2, cs2, w2, e2.trans e1, Phi.le_trans l1 l2, Steps.trans st1 st2, sr2⟩

theorem runS_succ (n : Nat) (s : S) : runS P K (n + 1) s = match stepA P K s with
    | some s => runS P K n s
    | none => none := rfl

theorem reach_run (hK : HookOk P K) : ∀ {n : Nat} {s s' : S}, runS P K n s = some s' → Reach P s s'
  | 0, s, s', h => by cases h; exact Reach.refl s
  | n + 1, s, s', h => by
    rw [runS_succ] at h
    split at h
    · rename_i s1 h1
      exact Reach.trans (fun N w0 bot φ fr cs w hs => sim_step hK hs h1) (reach_run hK h)
    · cases h

theorem keepT_get {α : Type} (t : T α) : ∀ (l : List Nat) (b : Nat) (x : α), (keepT t l).get b = some x → t.get b = some x
  | [], b, x, h => by cases h
  | c :: l, b, x, h => by
    simp only [keepT, T.get_set] at h
    split at h
    · rename_i e; subst e; exact h
    · exact keepT_get t l b x h

theorem HR.sub {N : NN} {φ : Phi} {h : H} {w : World} (hr : HR N φ h w) {t : T AObj} (ht : ∀ b o, t.get b = some o → h.t.get b = some o) : HR N φ { h with t := t } w :=
  ⟨fun b o hb hn => hr.obj b o (ht b o hb) hn, fun b o b' o' L L' hb hb' => hr.inj b o b' o' L L' (ht b o hb) (ht b' o' hb'), hr.lt, hr.res, hr.glob⟩

theorem reach_keep (s : S) (l : List Nat) : Reach P s (keepS s l) := fun N w0 bot φ fr cs w hs =>
  ⟨N, φ, fr, cs, w, rfl, φ.le_refl, Steps.refl P _, ⟨hs.fr, hs.cs, hs.h.sub (fun b o h => keepT_get s.h.t l b o h), hs.below, hs.size⟩⟩

/-- Some steps; then only these blocks are left. -/
def pieceS (P : Program) (K : Hook) (n : Nat) (l : List Nat) (s : S) : Option S :=
  match runS P K n s with
  | some s => some (keepS s l)
  | none => none

theorem reach_piece (hK : HookOk P K) {n : Nat} {l : List Nat} {s s' : S} (h : pieceS P K n l s = some s') : Reach P s s' := by
  unfold pieceS at h
  split at h
  · rename_i s1 h1
    cases h
    exact (reach_run hK h1).trans (reach_keep s1 l)
  · cases h

theorem calls_of_reach (hK : HookOk P K) {n : Nat} {f : FuncId} {args : List AV} {cargs : Array Value} {h h' : H} {v : AV} {fr0 : AFrame} {s : S} {N : NN} {φ : Phi} {w : World} (hen : enterA P f args .normal = some fr0)
    (hre : Reach P { fr := fr0, cs := [], h } s) (hc : runA P K f n s = some (v, h')) (hr : HR N φ h w) (hN : N ≤ w.heap.size)
    (ha : All2 (VR φ) args cargs.toList) : Calls P f cargs w fun e w' => ∃ N' : NN, ∃ φ' cv, N'.n = N.n ∧ e = .returned cv ∧ φ.le φ' ∧ VR φ' v cv ∧ HR N' φ' h' w' ∧ Below N.n w w' := by
  intro bot
  have hsr : SR N w φ { fr := fr0, cs := [], h } (Frame.enter P f cargs .normal) [] w := ⟨.mk (enter_dr hen) (enter_rel ha hen), rfl, hr, Below.refl _ _, hN⟩
  obtain ⟨N1, φ1, fr1, cs1, w1, e1, l1, st1, sr1⟩ := hre N w bot φ _ _ w hsr
  obtain ⟨N', φ', fr', w', cv, e, l, st, hf, hl, hv, hh, hb⟩ := sim_run hK (bot := bot) n N1 φ1 _ _ _ w1 v h' sr1 hc
  exact ⟨.returned cv, w', fr', ⟨N', φ', cv, e.trans e1, rfl, Phi.le_trans l1 l, hv, hh, by rw [← e1]; exact hb⟩, Steps.trans st1 st, hf, hl⟩

/-- The value alone. -/
def vals (r : Option (AV × H)) : Option AV :=
  match r with
  | some (v, _) => some v
  | none => none

/-- A closed law, in pieces. -/
theorem calls_true_reach (hK : HookOk P K) {n : Nat} {f : FuncId} {fr0 : AFrame} {s : S} (hen : enterA P f [] .normal = some fr0) (hre : Reach P { fr := fr0, cs := [], h := ⟨.e, 0, 0⟩ } s)
    (h : yes (runA P K f n s) = true) (w : World) : Calls P f #[] w fun e w' => e = .returned (.bool true) ∧ Below w.heap.size w w' := by
  unfold yes at h
  split at h
  · rename_i h' hc
    refine (calls_of_reach hK hen hre hc (HR_empty 0 w) (Nat.le_refl _) (cargs := #[]) trivial).mono ?_
    rintro e w' ⟨N', φ, cv, _, he, _, hv, _, hb⟩
    rw [VR_bool] at hv; subst hv
    exact ⟨he, hb⟩
  · cases h

/-- What is known of functions without arguments. -/
def KnownOk (P : Program) (f : FuncId) (v : AV) : Prop :=
  ∀ w : World, Calls P f #[] w fun e w' => ∃ φ cv, e = .returned cv ∧ VR φ v cv ∧ Below w.heap.size w w'

def knownHook (f0 : FuncId) (v : AV) : Hook := ⟨fun f args h =>
  match Nat.beq f f0 with
  | true => match args with
    | [] => some (v, h)
    | _ => none
  | false => none, fun _ _ _ => none⟩

theorem knownHook_ok {f0 : FuncId} {v : AV} (hg : ground3 v = true) (hk : KnownOk P f0 v) : HookOk P (knownHook f0 v) := by
  refine ⟨?_, fun _ _ _ _ _ h => (by cases h)⟩
  intro f args h v' h' he N φ w cargs hr hN ha
  unfold knownHook at he
  simp only at he
  split at he
  · rename_i hf
    have hf := Nat.eq_of_beq_eq_true hf; subst hf
    split at he
    · cases he
      have := All2.nil_left.1 ha
      have hc : cargs = #[] := by cases cargs; simp_all
      subst hc
      refine (hk w).mono ?_
      rintro e w' ⟨ψ, cv, rfl, hv, hb⟩
      exact ⟨φ, cv, rfl, φ.le_refl, VR_ground3 hg hv, hr.below hb, Below.mono hb hN⟩
    · cases he
  · cases he

theorem known_of_reach (hK : HookOk P K) {n : Nat} {f : FuncId} {fr0 : AFrame} {s : S} {v : AV} {h' : H} (hen : enterA P f [] .normal = some fr0) (hre : Reach P { fr := fr0, cs := [], h := ⟨.e, 0, 0⟩ } s)
    (h : runA P K f n s = some (v, h')) : KnownOk P f v := fun w => by
  refine (calls_of_reach hK hen hre h (HR_empty 0 w) (Nat.le_refl _) (cargs := #[]) trivial).mono ?_
  rintro e w' ⟨N', φ, cv, _, he, _, hv, _, hb⟩
  exact ⟨φ, cv, he, hv, hb⟩

end
end
end Go.AX

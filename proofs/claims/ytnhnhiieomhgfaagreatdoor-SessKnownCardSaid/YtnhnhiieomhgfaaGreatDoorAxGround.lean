/-
  AX: a hook: calls whose arguments and results bear no places are reckoned by themselves.
-/
import Derived.Test.YtnhnhiieomhgfaaGreatDoorAxHookS
namespace Go.AX
noncomputable section
open Go.RowKit

def ground1 : AV → Bool
  | .bool _ => true
  | .int _ _ => true
  | .str _ => true
  | .nilptr => true
  | .nilslice => true
  | .nilmap => true
  | .nilFunc => true
  | .nilIface => true
  | _ => false

def allB {α : Type} (f : α → Bool) : List α → Bool
  | [] => true
  | x :: l => match f x with
    | true => allB f l
    | false => false

def ground2 : AV → Bool
  | .agg l => allB ground1 l
  | v => ground1 v

def ground3 : AV → Bool
  | .tuple l => allB ground2 l
  | v => ground2 v

theorem allB_mem {α : Type} {f : α → Bool} : ∀ {l : List α}, allB f l = true → ∀ x, x ∈ l → f x = true
  | [], _, x, hx => by cases hx
  | y :: l, h, x, hx => by
    simp only [allB] at h
    split at h
    · rename_i hy
      rcases List.mem_cons.1 hx with rfl | hx
      · exact hy
      · exact allB_mem h x hx
    · cases h

theorem VR_ground1 {φ ψ : Phi} {a : AV} {v : Value} (hg : ground1 a = true) (h : VR φ a v) : VR ψ a v := by
  cases a <;> simp_all [ground1]

theorem All2_ground {φ ψ : Phi} {f : AV → Bool} (hf : ∀ a v, f a = true → VR φ a v → VR ψ a v) : ∀ {l : List AV} {l' : List Value}, (∀ x, x ∈ l → f x = true) → All2 (VR φ) l l' → All2 (VR ψ) l l'
  | [], l', _, h => by rw [All2.nil_left] at h ⊢; exact h
  | x :: l, l', hg, h => by
    obtain ⟨c, cs, rfl, h1, h2⟩ := All2.cons_left.1 h
    exact ⟨hf _ _ (hg x (by simp)) h1, All2_ground hf (fun y hy => hg y (by simp [hy])) h2⟩

theorem VR_ground2 {φ ψ : Phi} {a : AV} {v : Value} (hg : ground2 a = true) (h : VR φ a v) : VR ψ a v := by
  cases a with
  | agg l =>
    simp only [VR_agg] at h ⊢
    obtain ⟨x, e, h⟩ := h
    exact ⟨x, e, All2_ground (fun _ _ => VR_ground1) (allB_mem hg) h⟩
  | _ => exact VR_ground1 hg h

theorem VR_ground3 {φ ψ : Phi} {a : AV} {v : Value} (hg : ground3 a = true) (h : VR φ a v) : VR ψ a v := by
  cases a with
  | tuple l =>
    simp only [VR_tuple] at h ⊢
    obtain ⟨x, e, h⟩ := h
    exact ⟨x, e, All2_ground (fun _ _ => VR_ground2) (allB_mem hg) h⟩
  | _ => exact VR_ground2 hg h

def groundAt (P : Program) (K : Hook) (n : Nat) (f : FuncId) (args : List AV) : Option AV :=
  match allB ground2 args with
  | true => match callA P K n f args ⟨.e, 0, 0⟩ with
    | some (v, _) => match ground3 v with
      | true => some v
      | false => none
    | none => none
  | false => none

def groundHook (P : Program) (K : Hook) (n : Nat) (F : List FuncId) : Hook := ⟨fun f args h =>
  match memB f F with
  | true => match groundAt P K n f args with
    | some v => some (v, h)
    | none => none
  | false => none, fun _ _ _ => none⟩

theorem groundHook_ok {P : Program} {K : Hook} (hK : HookOk P K) (n : Nat) (F : List FuncId) : HookOk P (groundHook P K n F) := by
  refine ⟨?_, fun _ _ _ _ _ h => (by cases h)⟩
  intro f args h v h' hk N φ w cargs hr hN ha
  unfold groundHook at hk
  simp only at hk
  split at hk
  · split at hk
    · rename_i v' hg
      cases hk
      unfold groundAt at hg
      split at hg
      · rename_i hga
        split at hg
        · rename_i v1 h1 hc
          split at hg
          · rename_i hgv
            cases hg
            refine (calls_of_callA hK hc (HR_empty 0 w) (Nat.le_refl _) (cargs := cargs) (All2_ground (fun _ _ => VR_ground2) (allB_mem hga) ha)).mono ?_
            rintro e w' ⟨N', φ', cv, _, rfl, _, hv, _, hb⟩
            exact ⟨φ, cv, rfl, φ.le_refl, VR_ground3 hgv hv, hr.below hb, Below.mono hb hN⟩
          · cases hg
        · cases hg
      · cases hg
    · cases hk
  · cases hk

/-- One hook, then another one. -/
def orHook (a b : Hook) : Hook := ⟨fun f args h =>
  match a.call f args h with
  | some r => some r
  | none => b.call f args h, fun f args h =>
  match a.ext f args h with
  | some r => some r
  | none => b.ext f args h⟩

theorem orHook_ok {P : Program} {a b : Hook} (ha : HookOk P a) (hb : HookOk P b) : HookOk P (orHook a b) := by
  refine ⟨?_, ?_⟩
  · intro f args h v h' hk
    unfold orHook at hk
    simp only at hk
    split at hk
    · cases hk; exact ha.call _ _ _ _ _ ‹_›
    · exact hb.call _ _ _ _ _ hk
  · intro f args h v h' hk
    unfold orHook at hk
    simp only at hk
    split at hk
    · cases hk; exact ha.ext _ _ _ _ _ ‹_›
    · exact hb.ext _ _ _ _ _ hk

end
end Go.AX

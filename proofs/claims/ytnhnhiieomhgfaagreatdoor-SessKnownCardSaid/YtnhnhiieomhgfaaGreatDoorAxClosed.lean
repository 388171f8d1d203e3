/-
  AX: a call without arguments that comes to true on a heap of nothing, comes to true in every world, and leaves what was there.
-/
import Derived.Test.YtnhnhiieomhgfaaGreatDoorAxCall
namespace Go.AX
open Go.RowKit

/-- Does it come to true? -/
def yes (r : Option (AV × H)) : Bool :=
  match r with
  | some (.bool true, _) => true
  | _ => false

theorem calls_true {P : Program} {K : Hook} (hK : HookOk P K) {n : Nat} {f : FuncId} (h : yes (callA P K n f [] ⟨.e, 0, 0⟩) = true) (w : World) :
    Calls P f #[] w fun e w' => e = .returned (.bool true) ∧ Below w.heap.size w w' := by
  unfold yes at h
  split at h
  · rename_i h' hc
    refine (calls_of_callA hK hc (HR_empty 0 w) (Nat.le_refl _) (cargs := #[]) trivial).mono ?_
    rintro e w' ⟨N', φ, cv, _, he, _, hv, _, hb⟩
    rw [VR_bool] at hv; subst hv
    exact ⟨he, hb⟩
  · cases h

end Go.AX

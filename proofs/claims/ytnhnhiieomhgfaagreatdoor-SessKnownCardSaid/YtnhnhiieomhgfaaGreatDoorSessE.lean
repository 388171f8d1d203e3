/-
  A run in pieces: the last one, and what comes of all.
-/
import Derived.Test.YtnhnhiieomhgfaaGreatDoorSessP1
import Derived.Test.YtnhnhiieomhgfaaGreatDoorSessP2
import Derived.Test.YtnhnhiieomhgfaaGreatDoorSessP3
import Derived.Test.YtnhnhiieomhgfaaGreatDoorSessP4
namespace Go.Proofs.YtnhnhiieomhgfaaGreatDoor.Sess
open Go.AX
noncomputable section

theorem begun : (⟨st0.fr, [], h0⟩ : S) = st0 := by kernel_rfl

theorem reached : AX.Reach P ⟨st0.fr, [], h0⟩ st4 := by
  rw [begun]
  exact ((((AX.Reach.refl st0).trans (reach_piece hk_ok piece1)).trans (reach_piece hk_ok piece2)).trans (reach_piece hk_ok piece3)).trans (reach_piece hk_ok piece4)

set_option maxRecDepth 1000000 in
theorem last : yes (runA P hk 3 14248 st4) = true := by kernel_rfl

theorem walk (w : World) (φ : Phi) (hr : HR ⟨w.heap.size, fun _ => none⟩ φ h0 w) : Calls P 3 #[] w fun e w' => e = .returned (.bool true) ∧ Go.RowKit.Below w.heap.size w w' :=
  calls_true_from (fr0 := st0.fr) hk_ok (by kernel_rfl) reached last hr

end
end Go.Proofs.YtnhnhiieomhgfaaGreatDoor.Sess

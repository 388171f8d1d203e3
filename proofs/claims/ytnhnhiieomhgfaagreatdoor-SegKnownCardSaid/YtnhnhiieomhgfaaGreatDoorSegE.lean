/-
  A run in pieces: the last one, and what comes of all.
-/
import Derived.Test.YtnhnhiieomhgfaaGreatDoorSegP1
import Derived.Test.YtnhnhiieomhgfaaGreatDoorSegP2
import Derived.Test.YtnhnhiieomhgfaaGreatDoorSegP3
import Derived.Test.YtnhnhiieomhgfaaGreatDoorSegP4
import Derived.Test.YtnhnhiieomhgfaaGreatDoorSegP5
namespace Go.Proofs.YtnhnhiieomhgfaaGreatDoor.Seg
open Go.AX
noncomputable section

theorem begun : (⟨st0.fr, [], h0⟩ : S) = st0 := by kernel_rfl

theorem reached : AX.Reach P ⟨st0.fr, [], h0⟩ st5 := by
  rw [begun]
  exact (((((AX.Reach.refl st0).trans (reach_piece hkC_ok piece1)).trans (reach_piece hkC_ok piece2)).trans (reach_piece hkC_ok piece3)).trans (reach_piece hkC_ok piece4)).trans (reach_piece hkC_ok piece5)

set_option maxRecDepth 1000000 in
theorem last : yes (runA P hkC 5 21710 st5) = true := by kernel_rfl

theorem walk (w : World) (φ : Phi) (hr : HR ⟨w.heap.size, fun _ => none⟩ φ h0 w) : Calls P 5 #[] w fun e w' => e = .returned (.bool true) ∧ Go.RowKit.Below w.heap.size w w' :=
  calls_true_from (fr0 := st0.fr) hkC_ok (by kernel_rfl) reached last hr

end
end Go.Proofs.YtnhnhiieomhgfaaGreatDoor.Seg

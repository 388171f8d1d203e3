/-
  A run in pieces: the last one, and what comes of all.
-/
import Derived.Test.YtnhnhiieomhgfaaGreatDoorWalP1
import Derived.Test.YtnhnhiieomhgfaaGreatDoorWalP2
import Derived.Test.YtnhnhiieomhgfaaGreatDoorWalP3
import Derived.Test.YtnhnhiieomhgfaaGreatDoorWalP4
import Derived.Test.YtnhnhiieomhgfaaGreatDoorWalP5
import Derived.Test.YtnhnhiieomhgfaaGreatDoorWalP6
import Derived.Test.YtnhnhiieomhgfaaGreatDoorWalP7
import Derived.Test.YtnhnhiieomhgfaaGreatDoorWalP8
import Derived.Test.YtnhnhiieomhgfaaGreatDoorWalP9
import Derived.Test.YtnhnhiieomhgfaaGreatDoorWalP10
import Derived.Test.YtnhnhiieomhgfaaGreatDoorWalP11
import Derived.Test.YtnhnhiieomhgfaaGreatDoorWalP12
import Derived.Test.YtnhnhiieomhgfaaGreatDoorWalP13
import Derived.Test.YtnhnhiieomhgfaaGreatDoorWalP14
import Derived.Test.YtnhnhiieomhgfaaGreatDoorWalP15
import Derived.Test.YtnhnhiieomhgfaaGreatDoorWalP16
import Derived.Test.YtnhnhiieomhgfaaGreatDoorWalP17
import Derived.Test.YtnhnhiieomhgfaaGreatDoorWalP18
import Derived.Test.YtnhnhiieomhgfaaGreatDoorWalP19
import Derived.Test.YtnhnhiieomhgfaaGreatDoorWalP20
import Derived.Test.YtnhnhiieomhgfaaGreatDoorWalP21
import Derived.Test.YtnhnhiieomhgfaaGreatDoorWalP22
import Derived.Test.YtnhnhiieomhgfaaGreatDoorWalP23
namespace Go.Proofs.YtnhnhiieomhgfaaGreatDoor.Wal
open Go.AX
noncomputable section

theorem begun : (⟨st0.fr, [], h0⟩ : S) = st0 := by kernel_rfl

theorem reached : AX.Reach P ⟨st0.fr, [], h0⟩ st23 := by
  rw [begun]
  exact (((((((((((((((((((((((AX.Reach.refl st0).trans (reach_piece hkC_ok piece1)).trans (reach_piece hkC_ok piece2)).trans (reach_piece hkC_ok piece3)).trans (reach_piece hkC_ok piece4)).trans (reach_piece hkC_ok piece5)).trans (reach_piece hkC_ok piece6)).trans (reach_piece hkC_ok piece7)).trans (reach_piece hkC_ok piece8)).trans (reach_piece hkC_ok piece9)).trans (reach_piece hkC_ok piece10)).trans (reach_piece hkC_ok piece11)).trans (reach_piece hkC_ok piece12)).trans (reach_piece hkC_ok piece13)).trans (reach_piece hkC_ok piece14)).trans (reach_piece hkC_ok piece15)).trans (reach_piece hkC_ok piece16)).trans (reach_piece hkC_ok piece17)).trans (reach_piece hkC_ok piece18)).trans (reach_piece hkC_ok piece19)).trans (reach_piece hkC_ok piece20)).trans (reach_piece hkC_ok piece21)).trans (reach_piece hkC_ok piece22)).trans (reach_piece hkC_ok piece23)

set_option maxRecDepth 1000000 in
theorem last : yes (runA P hkC 6 22208 st23) = true := by kernel_rfl

theorem walk (w : World) (φ : Phi) (hr : HR ⟨w.heap.size, fun _ => none⟩ φ h0 w) : Calls P 6 #[] w fun e w' => e = .returned (.bool true) ∧ Go.RowKit.Below w.heap.size w w' :=
  calls_true_from (fr0 := st0.fr) hkC_ok (by kernel_rfl) reached last hr

end
end Go.Proofs.YtnhnhiieomhgfaaGreatDoor.Wal

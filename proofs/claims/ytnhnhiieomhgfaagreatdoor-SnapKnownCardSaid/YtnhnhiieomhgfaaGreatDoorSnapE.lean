/-
  A run in pieces: the last one, and what comes of all.
-/
import Derived.Test.YtnhnhiieomhgfaaGreatDoorSnapP1
import Derived.Test.YtnhnhiieomhgfaaGreatDoorSnapP2
import Derived.Test.YtnhnhiieomhgfaaGreatDoorSnapP3
import Derived.Test.YtnhnhiieomhgfaaGreatDoorSnapP4
import Derived.Test.YtnhnhiieomhgfaaGreatDoorSnapP5
import Derived.Test.YtnhnhiieomhgfaaGreatDoorSnapP6
import Derived.Test.YtnhnhiieomhgfaaGreatDoorSnapP7
import Derived.Test.YtnhnhiieomhgfaaGreatDoorSnapP8
import Derived.Test.YtnhnhiieomhgfaaGreatDoorSnapP9
import Derived.Test.YtnhnhiieomhgfaaGreatDoorSnapP10
import Derived.Test.YtnhnhiieomhgfaaGreatDoorSnapP11
import Derived.Test.YtnhnhiieomhgfaaGreatDoorSnapP12
import Derived.Test.YtnhnhiieomhgfaaGreatDoorSnapP13
import Derived.Test.YtnhnhiieomhgfaaGreatDoorSnapP14
import Derived.Test.YtnhnhiieomhgfaaGreatDoorSnapP15
import Derived.Test.YtnhnhiieomhgfaaGreatDoorSnapP16
import Derived.Test.YtnhnhiieomhgfaaGreatDoorSnapP17
import Derived.Test.YtnhnhiieomhgfaaGreatDoorSnapP18
import Derived.Test.YtnhnhiieomhgfaaGreatDoorSnapP19
import Derived.Test.YtnhnhiieomhgfaaGreatDoorSnapP20
import Derived.Test.YtnhnhiieomhgfaaGreatDoorSnapP21
import Derived.Test.YtnhnhiieomhgfaaGreatDoorSnapP22
import Derived.Test.YtnhnhiieomhgfaaGreatDoorSnapP23
namespace Go.Proofs.YtnhnhiieomhgfaaGreatDoor.Snap
open Go.AX
noncomputable section

theorem begun : (⟨st0.fr, [], h0⟩ : S) = st0 := by kernel_rfl

theorem reached : AX.Reach P ⟨st0.fr, [], h0⟩ st23 := by
  rw [begun]
  exact (((((((((((((((((((((((AX.Reach.refl st0).trans (reach_piece hkC_ok piece1)).trans (reach_piece hkC_ok piece2)).trans (reach_piece hkC_ok piece3)).trans (reach_piece hkC_ok piece4)).trans (reach_piece hkC_ok piece5)).trans (reach_piece hkC_ok piece6)).trans (reach_piece hkC_ok piece7)).trans (reach_piece hkC_ok piece8)).trans (reach_piece hkC_ok piece9)).trans (reach_piece hkC_ok piece10)).trans (reach_piece hkC_ok piece11)).trans (reach_piece hkC_ok piece12)).trans (reach_piece hkC_ok piece13)).trans (reach_piece hkC_ok piece14)).trans (reach_piece hkC_ok piece15)).trans (reach_piece hkC_ok piece16)).trans (reach_piece hkC_ok piece17)).trans (reach_piece hkC_ok piece18)).trans (reach_piece hkC_ok piece19)).trans (reach_piece hkC_ok piece20)).trans (reach_piece hkC_ok piece21)).trans (reach_piece hkC_ok piece22)).trans (reach_piece hkC_ok piece23)

set_option maxRecDepth 1000000 in
theorem last : yes (runA P hkC 4 8019 st23) = true := by kernel_rfl

theorem walk (w : World) (φ : Phi) (hr : HR ⟨w.heap.size, fun _ => none⟩ φ h0 w) : Calls P 4 #[] w fun e w' => e = .returned (.bool true) ∧ Go.RowKit.Below w.heap.size w w' :=
  calls_true_from (fr0 := st0.fr) hkC_ok (by kernel_rfl) reached last hr

end
end Go.Proofs.YtnhnhiieomhgfaaGreatDoor.Snap

/-
  A run in pieces: piece 20.
-/
import Derived.Test.YtnhnhiieomhgfaaGreatDoorSnapS
namespace Go.Proofs.YtnhnhiieomhgfaaGreatDoor.Snap
open Go.AX
noncomputable section

set_option maxRecDepth 1000000 in
theorem piece20 : pieceS P hkC 11770 [7, 8, 9, 24, 27, 29, 38, 41, 43, 52, 55, 57, 328, 329, 330, 348, 351, 489] st19 = some st20 := by kernel_rfl

end
end Go.Proofs.YtnhnhiieomhgfaaGreatDoor.Snap

/-
  A run in pieces: piece 23.
-/
import Derived.Test.YtnhnhiieomhgfaaGreatDoorSnapS
namespace Go.Proofs.YtnhnhiieomhgfaaGreatDoor.Snap
open Go.AX
noncomputable section

set_option maxRecDepth 1000000 in
theorem piece23 : pieceS P hkC 15067 [7, 8, 9, 24, 27, 29, 38, 41, 43, 52, 55, 57, 328, 329, 330, 348, 351, 498, 499, 508, 511, 513, 543, 544, 568, 571, 618, 621] st22 = some st23 := by kernel_rfl

end
end Go.Proofs.YtnhnhiieomhgfaaGreatDoor.Snap

/-
  A run in pieces: piece 21.
-/
import Derived.Test.YtnhnhiieomhgfaaGreatDoorSnapS
namespace Go.Proofs.YtnhnhiieomhgfaaGreatDoor.Snap
open Go.AX
noncomputable section

set_option maxRecDepth 1000000 in
theorem piece21 : pieceS P hkC 8471 [7, 8, 9, 24, 27, 29, 38, 41, 43, 52, 55, 57, 328, 329, 330, 348, 351, 498, 499, 508, 511, 513] st20 = some st21 := by kernel_rfl

end
end Go.Proofs.YtnhnhiieomhgfaaGreatDoor.Snap

/-
  A run in pieces: piece 1.
-/
import Derived.Test.YtnhnhiieomhgfaaGreatDoorTabS
namespace Go.Proofs.YtnhnhiieomhgfaaGreatDoor.Tab
open Go.AX
noncomputable section

set_option maxRecDepth 1000000 in
theorem piece1 : pieceS P noHook 22000 [0, 3, 7, 11, 15, 19, 23, 27, 31, 35, 39, 43, 47, 51, 55, 59, 63, 67, 71, 75, 79, 83, 87, 91, 95, 99, 103, 107, 111, 115, 119, 123, 127, 131, 135, 139, 143, 147, 151, 155, 159, 163, 167, 171, 173, 174, 175, 176] st0 = some st1 := by kernel_rfl

end
end Go.Proofs.YtnhnhiieomhgfaaGreatDoor.Tab

/-
  A run in pieces: piece 19.
-/
import Derived.Test.YtnhnhiieomhgfaaGreatDoorSnapS
namespace Go.Proofs.YtnhnhiieomhgfaaGreatDoor.Snap
open Go.AX
noncomputable section

set_option maxRecDepth 1000000 in
theorem piece19 : pieceS P hkC 8667 [7, 8, 9, 24, 27, 29, 38, 41, 43, 52, 55, 57, 84, 87, 328, 329, 330, 348, 351, 437, 440, 442, 443, 444, 445] st18 = some st19 := by kernel_rfl

end
end Go.Proofs.YtnhnhiieomhgfaaGreatDoor.Snap

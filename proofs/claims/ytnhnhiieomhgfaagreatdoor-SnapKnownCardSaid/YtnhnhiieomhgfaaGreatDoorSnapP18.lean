/-
  A run in pieces: piece 18.
-/
import Derived.Test.YtnhnhiieomhgfaaGreatDoorSnapS
namespace Go.Proofs.YtnhnhiieomhgfaaGreatDoor.Snap
open Go.AX
noncomputable section

set_option maxRecDepth 1000000 in
theorem piece18 : pieceS P hkC 7984 [7, 8, 9, 24, 27, 29, 38, 41, 43, 52, 55, 57, 84, 87, 328, 329, 330, 348, 351, 381, 382] st17 = some st18 := by kernel_rfl

end
end Go.Proofs.YtnhnhiieomhgfaaGreatDoor.Snap

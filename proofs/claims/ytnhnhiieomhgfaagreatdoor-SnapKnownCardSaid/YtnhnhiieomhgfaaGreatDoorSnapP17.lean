/-
  A run in pieces: piece 17.
-/
import Derived.Test.YtnhnhiieomhgfaaGreatDoorSnapS
namespace Go.Proofs.YtnhnhiieomhgfaaGreatDoor.Snap
open Go.AX
noncomputable section

set_option maxRecDepth 1000000 in
theorem piece17 : pieceS P hkC 193 [7, 8, 9, 24, 27, 29, 38, 41, 43, 52, 55, 57, 84, 87, 294, 295, 296, 297, 325, 326] st16 = some st17 := by kernel_rfl

end
end Go.Proofs.YtnhnhiieomhgfaaGreatDoor.Snap

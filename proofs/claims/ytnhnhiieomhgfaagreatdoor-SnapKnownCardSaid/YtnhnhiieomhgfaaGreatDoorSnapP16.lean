/-
  A run in pieces: piece 16.
-/
import Derived.Test.YtnhnhiieomhgfaaGreatDoorSnapS
namespace Go.Proofs.YtnhnhiieomhgfaaGreatDoor.Snap
open Go.AX
noncomputable section

set_option maxRecDepth 1000000 in
theorem piece16 : pieceS P hkC 117 [7, 8, 9, 24, 27, 29, 38, 41, 43, 52, 55, 57, 84, 87, 294, 295, 296, 297, 316, 317, 318, 319, 320, 321, 322] st15 = some st16 := by kernel_rfl

end
end Go.Proofs.YtnhnhiieomhgfaaGreatDoor.Snap

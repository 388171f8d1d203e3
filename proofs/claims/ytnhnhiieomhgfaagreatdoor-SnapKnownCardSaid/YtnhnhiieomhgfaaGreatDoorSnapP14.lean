/-
  A run in pieces: piece 14.
-/
import Derived.Test.YtnhnhiieomhgfaaGreatDoorSnapS
namespace Go.Proofs.YtnhnhiieomhgfaaGreatDoor.Snap
open Go.AX
noncomputable section

set_option maxRecDepth 1000000 in
theorem piece14 : pieceS P hkC 7888 [7, 8, 9, 24, 27, 29, 38, 41, 43, 52, 55, 57, 84, 87, 192, 195, 261, 262, 263, 264, 265, 266, 267, 274, 276] st13 = some st14 := by kernel_rfl

end
end Go.Proofs.YtnhnhiieomhgfaaGreatDoor.Snap

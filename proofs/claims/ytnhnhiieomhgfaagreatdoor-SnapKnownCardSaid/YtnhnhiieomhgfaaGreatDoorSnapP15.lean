/-
  A run in pieces: piece 15.
-/
import Derived.Test.YtnhnhiieomhgfaaGreatDoorSnapS
namespace Go.Proofs.YtnhnhiieomhgfaaGreatDoor.Snap
open Go.AX
noncomputable section

set_option maxRecDepth 1000000 in
theorem piece15 : pieceS P hkC 8669 [7, 8, 9, 24, 27, 29, 38, 41, 43, 52, 55, 57, 84, 87, 294, 295, 296, 297, 306] st14 = some st15 := by kernel_rfl

end
end Go.Proofs.YtnhnhiieomhgfaaGreatDoor.Snap

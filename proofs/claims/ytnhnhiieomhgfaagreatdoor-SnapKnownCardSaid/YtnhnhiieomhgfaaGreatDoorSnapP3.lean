/-
  A run in pieces: piece 3.
-/
import Derived.Test.YtnhnhiieomhgfaaGreatDoorSnapS
namespace Go.Proofs.YtnhnhiieomhgfaaGreatDoor.Snap
open Go.AX
noncomputable section

set_option maxRecDepth 1000000 in
theorem piece3 : pieceS P hkC 1732 [7, 8, 9, 24, 27, 29, 38, 41, 43, 52, 55, 57, 67, 68, 73, 74, 75, 76, 77, 78, 79, 80] st2 = some st3 := by kernel_rfl

end
end Go.Proofs.YtnhnhiieomhgfaaGreatDoor.Snap

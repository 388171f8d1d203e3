/-
  A run in pieces: piece 2.
-/
import Derived.Test.YtnhnhiieomhgfaaGreatDoorSnapS
namespace Go.Proofs.YtnhnhiieomhgfaaGreatDoor.Snap
open Go.AX
noncomputable section

set_option maxRecDepth 1000000 in
theorem piece2 : pieceS P hkC 3678 [7, 8, 9, 24, 27, 29, 38, 41, 43, 52, 55, 57, 67, 68] st1 = some st2 := by kernel_rfl

end
end Go.Proofs.YtnhnhiieomhgfaaGreatDoor.Snap

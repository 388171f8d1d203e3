/-
  A run in pieces: piece 1.
-/
import Derived.Test.YtnhnhiieomhgfaaGreatDoorSnapS
namespace Go.Proofs.YtnhnhiieomhgfaaGreatDoor.Snap
open Go.AX
noncomputable section

set_option maxRecDepth 1000000 in
theorem piece1 : pieceS P hkC 3324 [7, 8, 9, 24, 27, 29, 38, 41, 43, 44, 45] st0 = some st1 := by kernel_rfl

end
end Go.Proofs.YtnhnhiieomhgfaaGreatDoor.Snap

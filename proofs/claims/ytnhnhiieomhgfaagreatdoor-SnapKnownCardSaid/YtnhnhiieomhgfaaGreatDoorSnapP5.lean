/-
  A run in pieces: piece 5.
-/
import Derived.Test.YtnhnhiieomhgfaaGreatDoorSnapS
namespace Go.Proofs.YtnhnhiieomhgfaaGreatDoor.Snap
open Go.AX
noncomputable section

set_option maxRecDepth 1000000 in
theorem piece5 : pieceS P hkC 4847 [7, 8, 9, 24, 27, 29, 38, 41, 43, 52, 55, 57, 84, 87, 117, 118, 119, 120, 129, 130, 131] st4 = some st5 := by kernel_rfl

end
end Go.Proofs.YtnhnhiieomhgfaaGreatDoor.Snap

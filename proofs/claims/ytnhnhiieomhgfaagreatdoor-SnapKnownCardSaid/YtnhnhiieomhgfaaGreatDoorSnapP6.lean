/-
  A run in pieces: piece 6.
-/
import Derived.Test.YtnhnhiieomhgfaaGreatDoorSnapS
namespace Go.Proofs.YtnhnhiieomhgfaaGreatDoor.Snap
open Go.AX
noncomputable section

set_option maxRecDepth 1000000 in
theorem piece6 : pieceS P hkC 1752 [7, 8, 9, 24, 27, 29, 38, 41, 43, 52, 55, 57, 84, 87, 117, 118, 119, 120, 129, 130, 131, 132, 133, 134, 135] st5 = some st6 := by kernel_rfl

end
end Go.Proofs.YtnhnhiieomhgfaaGreatDoor.Snap

/-
  A run in pieces: piece 10.
-/
import Derived.Test.YtnhnhiieomhgfaaGreatDoorSnapS
namespace Go.Proofs.YtnhnhiieomhgfaaGreatDoor.Snap
open Go.AX
noncomputable section

set_option maxRecDepth 1000000 in
theorem piece10 : pieceS P hkC 6571 [7, 8, 9, 24, 27, 29, 38, 41, 43, 52, 55, 57, 84, 87, 192, 195, 225] st9 = some st10 := by kernel_rfl

end
end Go.Proofs.YtnhnhiieomhgfaaGreatDoor.Snap

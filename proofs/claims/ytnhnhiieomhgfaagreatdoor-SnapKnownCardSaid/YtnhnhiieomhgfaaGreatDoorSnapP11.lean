/-
  A run in pieces: piece 11.
-/
import Derived.Test.YtnhnhiieomhgfaaGreatDoorSnapS
namespace Go.Proofs.YtnhnhiieomhgfaaGreatDoor.Snap
open Go.AX
noncomputable section

set_option maxRecDepth 1000000 in
theorem piece11 : pieceS P hkC 9311 [7, 8, 9, 24, 27, 29, 38, 41, 43, 52, 55, 57, 84, 87, 192, 195, 225, 226, 227, 228, 240] st10 = some st11 := by kernel_rfl

end
end Go.Proofs.YtnhnhiieomhgfaaGreatDoor.Snap

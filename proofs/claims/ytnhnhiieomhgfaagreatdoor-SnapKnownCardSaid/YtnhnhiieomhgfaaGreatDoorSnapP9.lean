/-
  A run in pieces: piece 9.
-/
import Derived.Test.YtnhnhiieomhgfaaGreatDoorSnapS
namespace Go.Proofs.YtnhnhiieomhgfaaGreatDoor.Snap
open Go.AX
noncomputable section

set_option maxRecDepth 1000000 in
theorem piece9 : pieceS P hkC 3716 [7, 8, 9, 24, 27, 29, 38, 41, 43, 52, 55, 57, 84, 87, 164, 165, 170, 171, 172] st8 = some st9 := by kernel_rfl

end
end Go.Proofs.YtnhnhiieomhgfaaGreatDoor.Snap

/-
  A run in pieces: piece 8.
-/
import Derived.Test.YtnhnhiieomhgfaaGreatDoorSnapS
namespace Go.Proofs.YtnhnhiieomhgfaaGreatDoor.Snap
open Go.AX
noncomputable section

set_option maxRecDepth 1000000 in
theorem piece8 : pieceS P hkC 201 [7, 8, 9, 24, 27, 29, 38, 41, 43, 52, 55, 57, 84, 87, 117, 118, 119, 120, 148] st7 = some st8 := by kernel_rfl

end
end Go.Proofs.YtnhnhiieomhgfaaGreatDoor.Snap

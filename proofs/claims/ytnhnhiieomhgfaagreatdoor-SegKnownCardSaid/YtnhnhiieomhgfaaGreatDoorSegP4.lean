/-
  A run in pieces: piece 4.
-/
import Derived.Test.YtnhnhiieomhgfaaGreatDoorSegS
namespace Go.Proofs.YtnhnhiieomhgfaaGreatDoor.Seg
open Go.AX
noncomputable section

set_option maxRecDepth 1000000 in
theorem piece4 : pieceS P hkC 7343 [7, 8, 9, 12, 20, 32, 60, 61, 69, 79, 82, 95, 97, 255, 301, 303, 310, 311, 314, 320, 338, 346, 356, 359, 372, 374, 375, 376, 379, 380] st3 = some st4 := by kernel_rfl

end
end Go.Proofs.YtnhnhiieomhgfaaGreatDoor.Seg

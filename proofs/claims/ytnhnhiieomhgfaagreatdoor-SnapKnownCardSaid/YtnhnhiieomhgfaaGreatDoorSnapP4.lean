/-
  A run in pieces: piece 4.
-/
import Derived.Test.YtnhnhiieomhgfaaGreatDoorSnapS
namespace Go.Proofs.YtnhnhiieomhgfaaGreatDoor.Snap
open Go.AX
noncomputable section

set_option maxRecDepth 1000000 in
theorem piece4 : pieceS P hkC 5749 [7, 8, 9, 24, 27, 29, 38, 41, 43, 52, 55, 57, 84, 87, 117] st3 = some st4 := by kernel_rfl

end
end Go.Proofs.YtnhnhiieomhgfaaGreatDoor.Snap

/-
  A run in pieces: piece 4.
-/
import Derived.Test.YtnhnhiieomhgfaaGreatDoorSessS
namespace Go.Proofs.YtnhnhiieomhgfaaGreatDoor.Sess
open Go.AX
noncomputable section

set_option maxRecDepth 1000000 in
theorem piece4 : pieceS P hk 17506 [7, 8, 9, 11, 25, 42, 44, 46, 76, 104, 106, 108, 215, 216, 217, 218, 219, 220, 221, 222, 223, 224, 225] st3 = some st4 := by kernel_rfl

end
end Go.Proofs.YtnhnhiieomhgfaaGreatDoor.Sess

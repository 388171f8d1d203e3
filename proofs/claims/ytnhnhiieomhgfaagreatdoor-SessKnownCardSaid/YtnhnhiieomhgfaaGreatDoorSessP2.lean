/-
  A run in pieces: piece 2.
-/
import Derived.Test.YtnhnhiieomhgfaaGreatDoorSessS
namespace Go.Proofs.YtnhnhiieomhgfaaGreatDoor.Sess
open Go.AX
noncomputable section

set_option maxRecDepth 1000000 in
theorem piece2 : pieceS P hk 8485 [7, 8, 9, 11, 25, 42, 44, 46, 76, 104, 106, 108, 109, 110, 111, 112, 113, 121, 122, 123, 124, 125] st1 = some st2 := by kernel_rfl

end
end Go.Proofs.YtnhnhiieomhgfaaGreatDoor.Sess

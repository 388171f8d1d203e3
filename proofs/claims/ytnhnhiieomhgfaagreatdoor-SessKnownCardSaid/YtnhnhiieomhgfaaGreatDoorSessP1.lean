/-
  A run in pieces: piece 1.
-/
import Derived.Test.YtnhnhiieomhgfaaGreatDoorSessS
namespace Go.Proofs.YtnhnhiieomhgfaaGreatDoor.Sess
open Go.AX
noncomputable section

set_option maxRecDepth 1000000 in
theorem piece1 : pieceS P hk 8194 [7, 8, 9, 11, 25, 42, 44, 46, 76, 104] st0 = some st1 := by kernel_rfl

end
end Go.Proofs.YtnhnhiieomhgfaaGreatDoor.Sess

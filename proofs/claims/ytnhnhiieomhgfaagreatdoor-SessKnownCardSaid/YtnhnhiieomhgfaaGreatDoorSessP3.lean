/-
  A run in pieces: piece 3.
-/
import Derived.Test.YtnhnhiieomhgfaaGreatDoorSessS
namespace Go.Proofs.YtnhnhiieomhgfaaGreatDoor.Sess
open Go.AX
noncomputable section

set_option maxRecDepth 1000000 in
theorem piece3 : pieceS P hk 16827 [7, 8, 9, 11, 25, 42, 44, 46, 76, 104, 106, 108] st2 = some st3 := by kernel_rfl

end
end Go.Proofs.YtnhnhiieomhgfaaGreatDoor.Sess

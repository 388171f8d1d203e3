/-
  A run in pieces: piece 2.
-/
import Derived.Test.YtnhnhiieomhgfaaGreatDoorSegS
namespace Go.Proofs.YtnhnhiieomhgfaaGreatDoor.Seg
open Go.AX
noncomputable section

set_option maxRecDepth 1000000 in
theorem piece2 : pieceS P hkC 20440 [7, 8, 9, 12, 20, 32, 60, 61, 69, 79, 82, 95, 97] st1 = some st2 := by kernel_rfl

end
end Go.Proofs.YtnhnhiieomhgfaaGreatDoor.Seg

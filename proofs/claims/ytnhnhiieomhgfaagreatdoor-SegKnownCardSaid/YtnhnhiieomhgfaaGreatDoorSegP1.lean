/-
  A run in pieces: piece 1.
-/
import Derived.Test.YtnhnhiieomhgfaaGreatDoorSegS
namespace Go.Proofs.YtnhnhiieomhgfaaGreatDoor.Seg
open Go.AX
noncomputable section

set_option maxRecDepth 1000000 in
theorem piece1 : pieceS P hkC 9574 [7, 8, 9, 12, 20, 32, 42, 45, 60, 61, 69, 79, 82, 95, 97, 98] st0 = some st1 := by kernel_rfl

end
end Go.Proofs.YtnhnhiieomhgfaaGreatDoor.Seg

/-
  A run in pieces: piece 3.
-/
import Derived.Test.YtnhnhiieomhgfaaGreatDoorSegS
namespace Go.Proofs.YtnhnhiieomhgfaaGreatDoor.Seg
open Go.AX
noncomputable section

set_option maxRecDepth 1000000 in
theorem piece3 : pieceS P hkC 8216 [7, 8, 9, 12, 20, 32, 60, 61, 69, 79, 82, 95, 97, 255, 301, 303] st2 = some st3 := by kernel_rfl

end
end Go.Proofs.YtnhnhiieomhgfaaGreatDoor.Seg

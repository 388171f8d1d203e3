/-
  A run in pieces: piece 7.
-/
import Derived.Test.YtnhnhiieomhgfaaGreatDoorSnapS
namespace Go.Proofs.YtnhnhiieomhgfaaGreatDoor.Snap
open Go.AX
noncomputable section

set_option maxRecDepth 1000000 in
theorem piece7 : pieceS P hkC 112 [7, 8, 9, 24, 27, 29, 38, 41, 43, 52, 55, 57, 84, 87, 117, 118, 119, 120, 139, 140, 141, 142, 143, 144, 145] st6 = some st7 := by kernel_rfl

end
end Go.Proofs.YtnhnhiieomhgfaaGreatDoor.Snap

/-
  A run in pieces: piece 5.
-/
import Derived.Test.YtnhnhiieomhgfaaGreatDoorWalS1
namespace Go.Proofs.YtnhnhiieomhgfaaGreatDoor.Wal
open Go.AX
noncomputable section

set_option maxRecDepth 1000000 in
theorem piece5 : pieceS P hkC 5874 [7, 8, 9, 13, 27, 32, 33, 35, 39, 43, 48, 52, 61, 124, 134, 150, 164, 168, 315, 318, 400, 413, 430, 431, 432, 435, 487, 488, 490, 491, 492] st4 = some st5 := by kernel_rfl

end
end Go.Proofs.YtnhnhiieomhgfaaGreatDoor.Wal

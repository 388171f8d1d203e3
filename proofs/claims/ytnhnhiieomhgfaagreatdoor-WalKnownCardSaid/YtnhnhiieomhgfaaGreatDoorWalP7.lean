/-
  A run in pieces: piece 7.
-/
import Derived.Test.YtnhnhiieomhgfaaGreatDoorWalS1
namespace Go.Proofs.YtnhnhiieomhgfaaGreatDoor.Wal
open Go.AX
noncomputable section

set_option maxRecDepth 1000000 in
theorem piece7 : pieceS P hkC 1837 [7, 8, 9, 13, 27, 32, 33, 35, 39, 43, 48, 52, 61, 124, 134, 150, 164, 168, 315, 318, 400, 413, 430, 431, 432, 435, 487, 488, 490, 491, 492, 493, 494, 495, 512, 513, 514, 515] st6 = some st7 := by kernel_rfl

end
end Go.Proofs.YtnhnhiieomhgfaaGreatDoor.Wal

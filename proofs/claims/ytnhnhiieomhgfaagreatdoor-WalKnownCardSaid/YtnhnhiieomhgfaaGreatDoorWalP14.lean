/-
  A run in pieces: piece 14.
-/
import Derived.Test.YtnhnhiieomhgfaaGreatDoorWalS1
namespace Go.Proofs.YtnhnhiieomhgfaaGreatDoor.Wal
open Go.AX
noncomputable section

set_option maxRecDepth 1000000 in
theorem piece14 : pieceS P hkC 21541 [7, 8, 9, 13, 27, 32, 33, 35, 39, 43, 48, 52, 61, 124, 134, 150, 168, 315, 318, 430, 625, 630, 661, 674, 678, 681, 911, 914, 945, 946, 947, 950, 1005, 1006, 1008] st13 = some st14 := by kernel_rfl

end
end Go.Proofs.YtnhnhiieomhgfaaGreatDoor.Wal

/-
  A run in pieces: piece 16.
-/
import Derived.Test.YtnhnhiieomhgfaaGreatDoorWalS1
namespace Go.Proofs.YtnhnhiieomhgfaaGreatDoor.Wal
open Go.AX
noncomputable section

set_option maxRecDepth 1000000 in
theorem piece16 : pieceS P hkC 13925 [7, 8, 9, 13, 27, 32, 33, 35, 39, 43, 48, 52, 61, 124, 134, 150, 168, 430, 625, 630, 674, 678, 681, 911, 914, 945, 1190, 1257, 1260, 1290, 1291, 1294, 1358, 1359, 1361, 1362, 1363] st15 = some st16 := by kernel_rfl

end
end Go.Proofs.YtnhnhiieomhgfaaGreatDoor.Wal

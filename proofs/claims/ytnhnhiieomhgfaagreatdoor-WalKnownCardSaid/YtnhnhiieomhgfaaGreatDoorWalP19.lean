/-
  A run in pieces: piece 19.
-/
import Derived.Test.YtnhnhiieomhgfaaGreatDoorWalS1
namespace Go.Proofs.YtnhnhiieomhgfaaGreatDoor.Wal
open Go.AX
noncomputable section

set_option maxRecDepth 1000000 in
theorem piece19 : pieceS P hkC 19560 [7, 8, 9, 13, 27, 32, 33, 35, 39, 43, 48, 52, 61, 124, 134, 150, 168, 430, 625, 630, 674, 678, 681, 945, 1257, 1260, 1551, 1598, 1599, 1603, 1617, 1622, 1701, 1711, 1714, 1727, 1729, 1822, 1823, 1824, 1842, 1845, 1920] st18 = some st19 := by kernel_rfl

end
end Go.Proofs.YtnhnhiieomhgfaaGreatDoor.Wal

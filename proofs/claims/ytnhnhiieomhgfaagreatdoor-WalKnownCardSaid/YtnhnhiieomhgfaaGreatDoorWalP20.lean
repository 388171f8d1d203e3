/-
  A run in pieces: piece 20.
-/
import Derived.Test.YtnhnhiieomhgfaaGreatDoorWalS1
namespace Go.Proofs.YtnhnhiieomhgfaaGreatDoor.Wal
open Go.AX
noncomputable section

set_option maxRecDepth 1000000 in
theorem piece20 : pieceS P hkC 15764 [7, 8, 9, 13, 27, 32, 33, 35, 39, 43, 48, 52, 61, 124, 134, 150, 168, 430, 625, 630, 674, 678, 681, 945, 1257, 1260, 1551, 1598, 1599, 1603, 1617, 1622, 1701, 1711, 1714, 1727, 1729, 1822, 1823, 1824, 1842, 1845, 1920, 1924, 1925, 1926, 1930, 1931, 1932, 1936, 1950, 1955, 1956, 1959, 2007, 2017, 2020, 2033, 2035, 2043, 2046, 2150, 2151] st19 = some st20 := by kernel_rfl

end
end Go.Proofs.YtnhnhiieomhgfaaGreatDoor.Wal

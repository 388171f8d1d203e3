/-
  A run in pieces.
-/
import Derived.Test.YtakgpgamcmemgaaGreatWkS0
namespace Go.Proofs.YtakgpgamcmemgaaGreat.Wk
open Go.AX
noncomputable section

set_option maxRecDepth 1000000 in
theorem piece7 : txtK P hk 2 [11449,0] [0,1,68,122,123,124,133,138,139,526,1282,1284,1391,1491,1523,1524,1533,1537,1538,1539,1574,1575,1576,1577,1578,1579,1580,1585,1586,1587,1588,1589,1590,1591,1592,1593,1608,1609,1610] [1391] st6 = some st7 := by kernel_rfl

set_option maxRecDepth 1000000 in
theorem piece8 : txtK P hk 2 [12191,0] [0,1,68,122,123,124,133,138,139,526,1282,1284,1391,1491,1523,1524,1752,1756,1757,1758,1793,1794,1795,1796,1797,1798,1799,1804,1805,1806,1807,1808,1809,1810,1811,1812,1827,1828,1831,1832] [] st7 = some st8 := by kernel_rfl

end
end Go.Proofs.YtakgpgamcmemgaaGreat.Wk

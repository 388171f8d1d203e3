/-
  A run in pieces.
-/
import Derived.Test.YtcofhdoeaiknkaaGreatEvS0
namespace Go.Proofs.YtcofhdoeaiknkaaGreat.Ev
open Go.AX
noncomputable section

set_option maxRecDepth 1000000 in
theorem piece7 : txtK P hk 10 [9092,2,98,1,749,0,799,0,1248,0] [0,1,68,122,123,124,133,138,139,526,976,978,1085,1217,1218,1226,1263,1265,1266,1267,1268,1269,1270,1271,1273,1274,1275,1457,1572,1588,1590,1591,1592,1630,1631,1632,1633,1634,1635,1636,1637,1638,1639,1640,1641,1642,1643,1644,1645,1646,1647,1648,1649,1650,1651] [] st6 = some st7 := by kernel_rfl

set_option maxRecDepth 1000000 in
theorem piece8 : txtK P hk 2 [10481,0] [0,1,68,122,123,124,133,138,139,1217,1218,1588,1590,1703,1803,1828,1833,1838,1839,1840,1841,1842,1843,1844,1845] [1703] st7 = some st8 := by kernel_rfl

end
end Go.Proofs.YtcofhdoeaiknkaaGreat.Ev

/-
  A run in pieces.
-/
import Derived.Test.YtcofhdoeaiknkaaGreatHaS0
namespace Go.Proofs.YtcofhdoeaiknkaaGreat.Ha
open Go.AX
noncomputable section

set_option maxRecDepth 1000000 in
theorem piece5 : txtK P hk 2 [10727,0] [0,1,68,122,123,124,133,138,139,588,593,597,598,635,637,638,639,640,641,642,643,645,646,647,795,925,927,1034,1134,1135,1136,1139,1140,1141,1142,1143] [1034] st4 = some st5 := by kernel_rfl

set_option maxRecDepth 1000000 in
theorem piece6 : txtK P hk 2 [12335,0] [0,1,68,122,123,124,133,138,139,588,593,925,927,1034,1134,1159,1164,1169,1170,1347,1349,1350,1351,1352,1353,1354,1355,1356,1357,1358,1359,1375,1376,1377,1378,1379,1380,1381,1382,1383,1384,1385,1386,1387,1388,1389,1390,1391,1392,1393,1394,1395,1396,1397,1398,1399] [] st5 = some st6 := by kernel_rfl

end
end Go.Proofs.YtcofhdoeaiknkaaGreat.Ha

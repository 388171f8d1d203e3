/-
  A run in pieces.
-/
import Derived.Test.YtcofhdoeaiknkaaGreatDoorLoS0
namespace Go.Proofs.YtcofhdoeaiknkaaGreatDoor.Lo
open Go.AX
noncomputable section

set_option maxRecDepth 1000000 in
theorem piece13 : txtK P noHook 2 [1768,0] [3,59,60,199,200,468,510,511,512,515,516,519,520,589,603,617,618,886,1193,1194,1195,1196,1197,1198,1199,1200,1222,1223,1224,1225,1233,1234,1245,1246,1259,1312,1313,1314,1455,1456,1457,1460,1461,1464,1465,1495,1496,1500,1501,1502,1692,1693,1695,1698,1699,1701] [] st12 = some st13 := by kernel_rfl

end
end Go.Proofs.YtcofhdoeaiknkaaGreatDoor.Lo

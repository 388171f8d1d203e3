/-
  A run in pieces.
-/
import Derived.Test.YtcofhdoeaiknkaaGreatStS0
namespace Go.Proofs.YtcofhdoeaiknkaaGreat.St
open Go.AX
noncomputable section

set_option maxRecDepth 1000000 in
theorem piece5 : txtK P hk 10 [2157,2,94,1,668,0,718,0,7568,0] [0,1,68,122,123,124,133,138,139,186,226,524,529,533,535,536,693,696,698,699,700,701,702,703,704,706,707,708,856,971,986,988,989,990,1020,1021,1022,1023,1024,1025,1026,1027,1095,1107,1158,1159] [1159,1095] st4 = some st5 := by kernel_rfl

set_option maxRecDepth 1000000 in
theorem piece6 : txtK P hk 2 [11687,0] [0,1,68,122,123,124,133,138,139,186,226,533,535,693,698,986,988,1095,1195,1227,1228,1237,1238,1240,1241,1242,1243,1244,1250,1251,1252,1253,1254,1255,1256,1292,1293,1294,1295,1377,1379,1380,1381,1386,1387] [1095] st5 = some st6 := by kernel_rfl

end
end Go.Proofs.YtcofhdoeaiknkaaGreat.St

/-
  A run in pieces.
-/
import Derived.Test.YtakgpgamcmemgaaGreatWkS0
namespace Go.Proofs.YtakgpgamcmemgaaGreat.Wk
open Go.AX
noncomputable section

set_option maxRecDepth 1000000 in
theorem piece5 : txtK P hk 2 [12212,0] [0,1,68,122,123,124,133,138,139,395,517,522,526,833,992,994,995,996,997,998,999,1000,1001,1002,1003,1004,1152,1159,1160,1161,1162,1163,1164,1165] [] st4 = some st5 := by kernel_rfl

set_option maxRecDepth 1000000 in
theorem piece6 : txtK P hk 10 [5800,2,94,1,668,0,718,0,4151,0] [0,1,68,122,123,124,133,138,139,517,522,526,833,992,994,995,996,997,998,999,1000,1002,1003,1004,1152,1267,1282,1284,1285,1286,1316,1317,1318,1319,1320,1321,1322,1323,1324,1368,1370,1371,1372,1373,1374,1375,1376,1377] [1368] st5 = some st6 := by kernel_rfl

end
end Go.Proofs.YtakgpgamcmemgaaGreat.Wk

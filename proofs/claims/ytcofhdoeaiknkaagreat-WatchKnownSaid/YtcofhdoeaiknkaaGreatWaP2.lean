/-
  A run in pieces.
-/
import Derived.Test.YtcofhdoeaiknkaaGreatWaS0
namespace Go.Proofs.YtcofhdoeaiknkaaGreat.Wa
open Go.AX
noncomputable section

set_option maxRecDepth 1000000 in
theorem piece5 : txtK P hk 10 [11635,2,94,1,668,0,718,0,0,0] [0,1,68,122,123,124,133,138,139,181,182,184,188,193,407,529,534,538,687,691,830,834,836,873,875,876,877,878,879,880,881,883,884,885,1033,1148,1163,1165] [] st4 = some st5 := by kernel_rfl

set_option maxRecDepth 1000000 in
theorem piece6 : txtK P hk 2 [10727,0] [0,1,68,122,123,124,133,138,139,181,182,184,188,193,529,534,538,687,691,830,834,836,873,875,876,877,878,879,880,881,883,884,885,1033,1163,1165,1272,1372,1373,1374,1377,1378,1379,1380,1381] [1272] st5 = some st6 := by kernel_rfl

end
end Go.Proofs.YtcofhdoeaiknkaaGreat.Wa

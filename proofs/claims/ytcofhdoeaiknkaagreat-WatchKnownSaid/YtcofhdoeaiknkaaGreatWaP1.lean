/-
  A run in pieces.
-/
import Derived.Test.YtcofhdoeaiknkaaGreatWaS0
namespace Go.Proofs.YtcofhdoeaiknkaaGreat.Wa
open Go.AX
noncomputable section

set_option maxRecDepth 1000000 in
theorem piece3 : txtK P hk 10 [4256,2,69,1,323,0,373,0,7022,0] [0,1,68,122,123,124,133,138,139,181,182,184,188,193,407,529,534,538,539,548,551,552,553,556,651,652,653,654,655,656,657,658,659,660,661,662] [407] st2 = some st3 := by kernel_rfl

set_option maxRecDepth 1000000 in
theorem piece4 : txtK P hk 2 [12511,0] [0,1,68,122,123,124,133,138,139,181,182,184,188,193,407,529,534,538,687,691,830,834,836,873,875,876,877,878,879,880,881,882,883,884,885,901,902,903,904,905,906,907,908,909,910,911,912,913,914,915,916,917,918,919,920,921,922,923,924,925] [] st3 = some st4 := by kernel_rfl

end
end Go.Proofs.YtcofhdoeaiknkaaGreat.Wa

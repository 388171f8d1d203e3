/-
  A run in pieces.
-/
import Derived.Test.YtcofhdoeaiknkaaGreatHaS0
namespace Go.Proofs.YtcofhdoeaiknkaaGreat.Ha
open Go.AX
noncomputable section

set_option maxRecDepth 1000000 in
theorem piece13 : txtK P hk 2 [12191,0] [0,1,68,122,123,124,133,138,139,1159,1164,1169,1787,1920,1921,2353,2355,2545,2822,2890,2894,2895,2896,2898,2899,2900,2901,2902,2903,2908,2909,2910,2911,2912,2913,2914,2946,2948,2998,3023,3025,3026,3027] [] st12 = some st13 := by kernel_rfl

set_option maxRecDepth 1000000 in
theorem piece14 : txtK P hk 8 [9927,2,1431,1,37,0,710,0] [0,1,68,122,123,124,133,138,139,1159,1164,1169,1787,1920,1921,2353,2355,2545,2822,2890,2894,2895,2896,3048,3049,3050,3051,3052,3053,3222,3237,3239,3240,3241,3266,3267] [] st13 = some st14 := by kernel_rfl

end
end Go.Proofs.YtcofhdoeaiknkaaGreat.Ha

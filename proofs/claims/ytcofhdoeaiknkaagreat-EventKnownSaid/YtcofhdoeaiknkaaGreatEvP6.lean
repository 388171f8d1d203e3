/-
  A run in pieces.
-/
import Derived.Test.YtcofhdoeaiknkaaGreatEvS0
namespace Go.Proofs.YtcofhdoeaiknkaaGreat.Ev
open Go.AX
noncomputable section

set_option maxRecDepth 1000000 in
theorem piece13 : txtK P hk 2 [11818,0] [0,1,68,122,123,124,133,138,139,1703,1828,1833,1838,2395,2397,2609,2645,2646,2655,2862,2865,2866,2867,2868,2869,2870,2871,2872,2873,2874,2875,2884,2885,2886,2887,2888,2889,2890,2891,2892,2893,2894,2930,2932,2994] [] st12 = some st13 := by kernel_rfl

set_option maxRecDepth 1000000 in
theorem piece14 : txtK P hk 14 [11175,2,98,1,1287,1,37,0,1337,1,37,0,0,0] [0,1,68,122,123,124,133,138,139,1703,1828,1833,1838,2395,2397,2609,2645,2646,2655,2862,2865,2866,2867,2868,2869,2870,2871,2873,2874,2875,3118,3233,3250,3252] [] st13 = some st14 := by kernel_rfl

end
end Go.Proofs.YtcofhdoeaiknkaaGreat.Ev

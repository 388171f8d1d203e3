/-
  A run in pieces.
-/
import Derived.Test.YtcofhdoeaiknkaaGreatEvS0
namespace Go.Proofs.YtcofhdoeaiknkaaGreat.Ev
open Go.AX
noncomputable section

set_option maxRecDepth 1000000 in
theorem piece15 : txtK P hk 2 [10376,0] [0,1,68,122,123,124,133,138,139,1703,1828,1833,1838,2395,2397,2609,2645,2646,2655,2862,2865,2866,2867,2868,2869,2870,2871,2873,2874,2875,3118,3233,3250,3252,3253,3254] [1703] st14 = some st15 := by kernel_rfl

set_option maxRecDepth 1000000 in
theorem piece16 : txtK P hk 2 [12135,0] [0,1,68,122,123,124,133,138,139,1703,1838,2645,2646,3250,3252,3464,3495,3496,3505,3506,3507,3508,3573,3576,3627,3628,3629,3638,3639] [] st15 = some st16 := by kernel_rfl

end
end Go.Proofs.YtcofhdoeaiknkaaGreat.Ev

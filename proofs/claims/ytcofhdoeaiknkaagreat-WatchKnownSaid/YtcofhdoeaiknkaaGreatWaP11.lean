/-
  A run in pieces.
-/
import Derived.Test.YtcofhdoeaiknkaaGreatWaS0
namespace Go.Proofs.YtcofhdoeaiknkaaGreat.Wa
open Go.AX
noncomputable section

set_option maxRecDepth 1000000 in
theorem piece24 : txtK P hk 24 [7122,2,69,1,39,1,404,0,489,0,39,1,454,0,539,0,39,1,539,0,589,0,142,0] [0,1,68,122,123,124,133,138,139,181,182,184,188,193,687,830,836,1397,1402,1407,1573,1696,2306,2437,2438,2740,2744,3030,3036,3046,3238,3432,3720,3731,3734,3908,3910,4100,4109,4121,4124] [2306] st23 = some st24 := by kernel_rfl

theorem same24 : st24 = st22 := by kernel_rfl

end
end Go.Proofs.YtcofhdoeaiknkaaGreat.Wa

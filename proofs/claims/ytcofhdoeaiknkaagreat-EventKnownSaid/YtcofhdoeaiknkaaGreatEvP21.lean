/-
  A run in pieces.
-/
import Derived.Test.YtcofhdoeaiknkaaGreatEvS1
namespace Go.Proofs.YtcofhdoeaiknkaaGreat.Ev
open Go.AX
noncomputable section

set_option maxRecDepth 1000000 in
theorem piece43 : txtK P hk 2 [12586,0] [0,1,68,122,123,124,133,138,139,1703,1838,2645,2646,3250,3252,3464,3495,3496,9743,9744,9747,9748,9749,9750,9751,9752,9753,9758,9759,9760,9761,9762,9763,9764,9765,9766,9781,9782,9785,9786] [] st42 = some st43 := by kernel_rfl

set_option maxRecDepth 1000000 in
theorem piece44 : txtK P hk 2 [12373,0] [0,1,68,122,123,124,133,138,139,1703,1838,2645,2646,3250,3252,3464,3495,3496,9743,9744,9747,9748,9749,9750,9751,9752,9753,9758,9759,9760,9761,9762,9763,9764,9804,9806,9880,9977,9979,9980,9981,9983,9984,9986] [] st43 = some st44 := by kernel_rfl

end
end Go.Proofs.YtcofhdoeaiknkaaGreat.Ev

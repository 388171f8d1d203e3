/-
  A run in pieces.
-/
import Derived.Test.YtcofhdoeaiknkaaGreatHaS0
namespace Go.Proofs.YtcofhdoeaiknkaaGreat.Ha
open Go.AX
noncomputable section

set_option maxRecDepth 1000000 in
theorem piece25 : txtK P hk 2 [7849,0] [0,1,68,122,123,124,133,138,139,1787,3237,3239,3429,3541,3543,3575,3577,3583] [] st24 = some st25 := by kernel_rfl

end
end Go.Proofs.YtcofhdoeaiknkaaGreat.Ha

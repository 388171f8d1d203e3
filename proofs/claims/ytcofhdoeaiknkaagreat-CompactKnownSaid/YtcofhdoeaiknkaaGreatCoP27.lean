/-
  A run in pieces.
-/
import Derived.Test.YtcofhdoeaiknkaaGreatCoS2
namespace Go.Proofs.YtcofhdoeaiknkaaGreat.Co
open Go.AX
noncomputable section

set_option maxRecDepth 1000000 in
theorem piece82 : txtK P hk 2 [4736,0] [0,1,68,122,123,124,133,138,139,1703,3882,4625,5681,7089,7091,7303,7414,7416,7422,7451] [] st81 = some st82 := by kernel_rfl

end
end Go.Proofs.YtcofhdoeaiknkaaGreat.Co

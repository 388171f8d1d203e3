/-
  A run in pieces.
-/
import Derived.Test.YtcofhdoeaiknkaaGreatEvS0
namespace Go.Proofs.YtcofhdoeaiknkaaGreat.Ev
open Go.AX
noncomputable section

set_option maxRecDepth 1000000 in
theorem piece3 : txtK P hk 2 [12064,0] [0,1,68,122,123,124,133,138,139,395,517,522,526,527,686,688,689,690,691,692,693,694,695,696,697] [395] st2 = some st3 := by kernel_rfl

set_option maxRecDepth 1000000 in
theorem piece4 : txtK P hk 2 [11875,0] [0,1,68,122,123,124,133,138,139,395,517,522,526,527,686,688,689,690,691,692,693,694,695,696,697,698,846,853,854,855,856,857,858,859,860,861,862,863,887,889,915,917,918,919,920,932,933,934,936,937] [] st3 = some st4 := by kernel_rfl

end
end Go.Proofs.YtcofhdoeaiknkaaGreat.Ev

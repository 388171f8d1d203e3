/-
  A run in pieces.
-/
import Derived.Test.YtcofhdoeaiknkaaGreatStS0
namespace Go.Proofs.YtcofhdoeaiknkaaGreat.St
open Go.AX
noncomputable section

set_option maxRecDepth 1000000 in
theorem piece3 : txtK P hk 2 [12034,0] [0,1,68,122,123,124,133,138,139,186,226,402,524,529,533,535,536,538,539,540,541,542,549,550,551,552,693,696,697,698] [402] st2 = some st3 := by kernel_rfl

set_option maxRecDepth 1000000 in
theorem piece4 : txtK P hk 2 [11875,0] [0,1,68,122,123,124,133,138,139,186,226,402,524,529,533,535,536,693,696,698,699,700,701,702,703,704,705,706,707,708,856,863,864,865,866,867,868,869,870,871,872,873,897,899,925,927,928,929,930,931,932,941] [] st3 = some st4 := by kernel_rfl

end
end Go.Proofs.YtcofhdoeaiknkaaGreat.St

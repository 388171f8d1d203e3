/-
  A run in pieces.
-/
import Derived.Test.YtcofhdoeaiknkaaGreatStS0
namespace Go.Proofs.YtcofhdoeaiknkaaGreat.St
open Go.AX
noncomputable section

set_option maxRecDepth 1000000 in
theorem piece18 : txtK P hk 8 [10700,2,1431,1,37,0,0,0] [0,1,68,122,123,124,133,138,139,186,226,533,535,693,698,1237,1412,1419,1850,1983,1984,1990,2167,2168,2216,2220,2437,2440,2654,2656,2693,2892,2895,2941,2943,3111,3112,3126,3127,3128,3129,3130,3131,3132,3133,3134,3135,3136,3677,3692,3694] [] st17 = some st18 := by kernel_rfl

set_option maxRecDepth 1000000 in
theorem piece19 : txtK P hk 2 [9142,0] [0,1,68,122,123,124,133,138,139,186,226,533,535,693,698,1237,1412,1419,1850,1983,1984,1990,2167,2168,2216,2220,2437,2440,2654,2656,2693,2892,2895,3112,3126,3127,3128,3129,3130,3131,3692,3694,3884] [1850] st18 = some st19 := by kernel_rfl

end
end Go.Proofs.YtcofhdoeaiknkaaGreat.St

/-
  A run in pieces.
-/
import Derived.Test.YtcofhdoeaiknkaaGreatStS0
namespace Go.Proofs.YtcofhdoeaiknkaaGreat.St
open Go.AX
noncomputable section

set_option maxRecDepth 1000000 in
theorem piece22 : txtK P hk 2 [9142,0] [0,1,68,122,123,124,133,138,139,186,226,533,535,693,698,1237,1412,1419,1850,1983,1984,1990,2167,2168,2216,2220,2437,2440,2654,2656,2693,2892,2895,3112,3126,3127,3128,3129,3130,3131,3692,3694,3884] [1850] st21 = some st22 := by kernel_rfl

theorem same22 : st22 = st19 := by kernel_rfl

end
end Go.Proofs.YtcofhdoeaiknkaaGreat.St

/-
  A run in pieces.
-/
import Derived.Test.YtcofhdoeaiknkaaGreatWaS0
namespace Go.Proofs.YtcofhdoeaiknkaaGreat.Wa
open Go.AX
noncomputable section

theorem same25 : st22 = st25 := by kernel_rfl

set_option maxRecDepth 1000000 in
theorem piece26 : txtK P hk 2 [13000,0] [0,1,68,122,123,124,133,138,139,181,182,184,188,193,687,830,836,1397,1402,1407,1573,1696,2306,2437,2438,2740,2744,3030,3036,3238,3432,3720,3731,3734,3908,3910,4100,4109,4121,4126,4128,4135,4139,4144,4149,4154,4159,4164,4169,4174,4179,4184,4189,4194,4199,4204,4209,4214,4219,4224,4229,4234,4239,4244,4249,4254,4259,4264,4269,4274,4279,4284,4289,4294,4299,4304,4309,4314,4318,4319,4320] [] st25 = some st26 := by kernel_rfl

end
end Go.Proofs.YtcofhdoeaiknkaaGreat.Wa

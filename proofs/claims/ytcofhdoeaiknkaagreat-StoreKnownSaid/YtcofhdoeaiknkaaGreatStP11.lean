/-
  A run in pieces.
-/
import Derived.Test.YtcofhdoeaiknkaaGreatStS0
namespace Go.Proofs.YtcofhdoeaiknkaaGreat.St
open Go.AX
noncomputable section

theorem same23 : st19 = st23 := by kernel_rfl

set_option maxRecDepth 1000000 in
theorem piece24 : txtK P hk 2 [11312,0] [0,1,68,122,123,124,133,138,139,186,226,533,535,693,698,1237,1412,1419,1850,1983,1984,1990,2167,2168,2216,2220,2437,2440,2654,2656,2693,2892,2895,3112,3126,3692,3694,3884,3897,3904,3911,3912,3919,3920,3921,3922,3923,3924,3925,3926,3927,3928,3929,3930,3931,3932,3933,3934,4044,4045,4046,4047,4048,4049,4064,4065,4068,4069,4082,4083,4084,4085,4086,4117,4118,4119,4125] [4117] st23 = some st24 := by kernel_rfl

end
end Go.Proofs.YtcofhdoeaiknkaaGreat.St

/-
  A run in pieces.
-/
import Derived.Test.YtcofhdoeaiknkaaGreatHaS0
namespace Go.Proofs.YtcofhdoeaiknkaaGreat.Ha
open Go.AX
noncomputable section

set_option maxRecDepth 1000000 in
theorem piece11 : txtK P hk 8 [875,2,1332,1,37,0,8658,0] [0,1,68,122,123,124,133,138,139,1159,1164,1169,1672,1674,1787,1887,1920,1921,2191,2192,2193,2194,2195,2196,2197,2198,2199,2338,2353,2355,2356,2357,2395,2396,2397,2398,2399,2400,2401,2402,2534,2535,2536,2537,2538,2539,2540] [1787] st10 = some st11 := by kernel_rfl

set_option maxRecDepth 1000000 in
theorem piece12 : txtK P hk 2 [12122,0] [0,1,68,122,123,124,133,138,139,1159,1164,1169,1787,1920,1921,2353,2355,2545,2547,2551,2552,2553,2619,2624,2625,2626,2627,2628,2629,2630,2631,2636,2637,2638,2639,2640,2641,2642,2674,2676,2726,2778] [] st11 = some st12 := by kernel_rfl

end
end Go.Proofs.YtcofhdoeaiknkaaGreat.Ha

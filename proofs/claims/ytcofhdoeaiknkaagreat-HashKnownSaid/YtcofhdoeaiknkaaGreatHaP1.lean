/-
  A run in pieces.
-/
import Derived.Test.YtcofhdoeaiknkaaGreatHaS0
namespace Go.Proofs.YtcofhdoeaiknkaaGreat.Ha
open Go.AX
noncomputable section

set_option maxRecDepth 1000000 in
theorem piece3 : txtK P hk 2 [11962,0] [0,1,68,122,123,124,133,138,139,466,588,593,597,598,635,637,638,639,640,641,642,643,644,645,646,647,663,664,665,666,667,668,669,670,671,672,673,674,675,676,677,678,679,680,681,682,683,684,685,686] [466] st2 = some st3 := by kernel_rfl

set_option maxRecDepth 1000000 in
theorem piece4 : txtK P hk 10 [10908,2,94,1,668,0,718,0,0,0] [0,1,68,122,123,124,133,138,139,466,588,593,597,598,635,637,638,639,640,641,642,643,645,646,647,795,910,925,927] [] st3 = some st4 := by kernel_rfl

end
end Go.Proofs.YtcofhdoeaiknkaaGreat.Ha

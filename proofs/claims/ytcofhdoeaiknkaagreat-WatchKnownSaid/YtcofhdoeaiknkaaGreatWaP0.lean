/-
  A run in pieces.
-/
import Derived.Test.YtcofhdoeaiknkaaGreatWaS0
namespace Go.Proofs.YtcofhdoeaiknkaaGreat.Wa
open Go.AX
noncomputable section

set_option maxRecDepth 1000000 in
theorem piece1 : txtK P hk 2 [12135,0] [0,1,68,71,122,123,124,133,138,139,181,182,184,187,188,189] [] st0 = some st1 := by kernel_rfl

set_option maxRecDepth 1000000 in
theorem piece2 : txtK P hk 6 [7095,2,554,0,4467,0] [0,1,68,122,123,124,133,138,139,181,182,184,188,193,229,231,232,233,234,235,236,237,238,239,240,241,296,342,353,354,355,356,357,358,359,360,361,362,407,419,426,427] [407] st1 = some st2 := by kernel_rfl

end
end Go.Proofs.YtcofhdoeaiknkaaGreat.Wa

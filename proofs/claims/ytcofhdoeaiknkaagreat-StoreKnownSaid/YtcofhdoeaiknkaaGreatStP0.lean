/-
  A run in pieces.
-/
import Derived.Test.YtcofhdoeaiknkaaGreatStS0
namespace Go.Proofs.YtcofhdoeaiknkaaGreat.St
open Go.AX
noncomputable section

set_option maxRecDepth 1000000 in
theorem piece1 : txtK P hk 2 [12135,0] [0,1,68,71,122,123,124,133,138,139,186,187,189,190,191,192,193,194] [] st0 = some st1 := by kernel_rfl

set_option maxRecDepth 1000000 in
theorem piece2 : txtK P hk 6 [6750,2,554,0,4812,0] [0,1,68,122,123,124,133,138,139,186,187,224,226,227,228,229,230,231,232,233,234,235,236,291,337,348,349,350,351,352,353,354,355,356,357,402,414,441,442] [402] st1 = some st2 := by kernel_rfl

end
end Go.Proofs.YtcofhdoeaiknkaaGreat.St

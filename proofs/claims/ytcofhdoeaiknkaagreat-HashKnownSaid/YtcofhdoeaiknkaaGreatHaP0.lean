/-
  A run in pieces.
-/
import Derived.Test.YtcofhdoeaiknkaaGreatHaS0
namespace Go.Proofs.YtcofhdoeaiknkaaGreat.Ha
open Go.AX
noncomputable section

set_option maxRecDepth 1000000 in
theorem piece1 : txtK P hk 2 [12135,0] [0,1,68,71,122,123,124,133,138,139,182,186,187,188,189,190,191,192,193,194] [] st0 = some st1 := by kernel_rfl

set_option maxRecDepth 1000000 in
theorem piece2 : txtK P hk 6 [10633,2,554,0,1399,0] [0,1,68,71,122,123,124,133,138,139,252,288,290,291,292,293,294,295,296,297,298,299,300,355,401,412,413,414,415,416,417,418,419,420,421,422,423,424,425,426,427,428,429,430,431,432,433,434,435] [] st1 = some st2 := by kernel_rfl

end
end Go.Proofs.YtcofhdoeaiknkaaGreat.Ha

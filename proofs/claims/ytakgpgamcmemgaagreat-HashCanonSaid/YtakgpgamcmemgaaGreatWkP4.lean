/-
  A run in pieces.
-/
import Derived.Test.YtakgpgamcmemgaaGreatWkS0
namespace Go.Proofs.YtakgpgamcmemgaaGreat.Wk
open Go.AX
noncomputable section

set_option maxRecDepth 1000000 in
theorem piece9 : txtK P hk 2 [4951,0] [0,1,68,122,123,124,133,138,139,526,1282,1284,1391,1491,1523,1524] [] st8 = some st9 := by kernel_rfl

end
end Go.Proofs.YtakgpgamcmemgaaGreat.Wk

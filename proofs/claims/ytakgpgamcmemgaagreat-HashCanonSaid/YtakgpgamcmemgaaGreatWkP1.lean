/-
  A run in pieces.
-/
import Derived.Test.YtakgpgamcmemgaaGreatWkS0
namespace Go.Proofs.YtakgpgamcmemgaaGreat.Wk
open Go.AX
noncomputable section

set_option maxRecDepth 1000000 in
theorem piece3 : txtK P hk 2 [12043,0] [0,1,68,122,123,124,133,138,139,395,517,522,526,681,683] [395] st2 = some st3 := by kernel_rfl

set_option maxRecDepth 1000000 in
theorem piece4 : txtK P hk 2 [12150,0] [0,1,68,122,123,124,133,138,139,395,517,522,526,833,834,835,836,837,838,845,846,847,848,849,850,851,852,885,886,887,888,891,892,893,894,895,896,897,898,899,900,915,916,919,920,921,922] [] st3 = some st4 := by kernel_rfl

end
end Go.Proofs.YtakgpgamcmemgaaGreat.Wk

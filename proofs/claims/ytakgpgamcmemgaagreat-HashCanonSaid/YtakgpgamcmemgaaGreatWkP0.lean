/-
  A run in pieces.
-/
import Derived.Test.YtakgpgamcmemgaaGreatWkS0
namespace Go.Proofs.YtakgpgamcmemgaaGreat.Wk
open Go.AX
noncomputable section

set_option maxRecDepth 1000000 in
theorem piece1 : txtK P hk 2 [12135,0] [0,1,68,71,122,123,124,133,138,139,181,182,183,184,185,186,187] [] st0 = some st1 := by kernel_rfl

set_option maxRecDepth 1000000 in
theorem piece2 : txtK P hk 6 [6476,2,554,0,5065,0] [0,1,68,122,123,124,133,138,139,181,217,219,220,221,222,223,224,225,226,227,228,229,284,330,341,342,343,344,345,346,347,348,349,350,395,407,446,447] [447,395] st1 = some st2 := by kernel_rfl

end
end Go.Proofs.YtakgpgamcmemgaaGreat.Wk

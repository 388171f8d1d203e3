/-
  A run in pieces.
-/
import Derived.Test.YtcofhdoeaiknkaaGreatEvS1
namespace Go.Proofs.YtcofhdoeaiknkaaGreat.Ev
open Go.AX
noncomputable section

set_option maxRecDepth 1000000 in
theorem piece51 : txtK P hk 8 [3480,2,1366,1,37,0,6466,0] [0,1,68,122,123,124,133,138,139,1703,1838,2645,2646,9991,10828,10830,11042,11077,11078,11083,11089,11316,11317,11318,11319,11320,11321,11322,11323,11324,11463,11478,11480,11481,11482,11520,11521,11522,11523,11524,11525,11526,11527,11638,11639,11640,11641,11642] [1703] st50 = some st51 := by kernel_rfl

set_option maxRecDepth 1000000 in
theorem piece52 : txtK P hk 2 [3219,0] [0,1,68,122,123,124,133,138,139,1703,1838,2645,2646,9991,11077,11078,11083,11089,11478,11480,11670] [1703] st51 = some st52 := by kernel_rfl

end
end Go.Proofs.YtcofhdoeaiknkaaGreat.Ev

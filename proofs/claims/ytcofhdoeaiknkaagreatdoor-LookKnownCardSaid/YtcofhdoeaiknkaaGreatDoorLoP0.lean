/-
  A run in pieces.
-/
import Derived.Test.YtcofhdoeaiknkaaGreatDoorLoS0
namespace Go.Proofs.YtcofhdoeaiknkaaGreatDoor.Lo
open Go.AX
noncomputable section

set_option maxRecDepth 1000000 in
theorem piece1 : txtK P noHook 2 [12971,0] [3,5,58,59,60,61,62,199,200,254,255,256,257,258,259,260,261,262,263,264,265,266,267,268,269,270,271,272] [] st0 = some st1 := by kernel_rfl

set_option maxRecDepth 1000000 in
theorem piece2 : txtK P noHook 4 [2415,1,10582,0] [3,59,60,199,200,468,510,511,512,515,516,519,520,522,523,524,525,526,527,528,529,530,533,534,535,536,537,538,539,540,541,545,551,552,557,559,560,561,562] [] st1 = some st2 := by kernel_rfl

end
end Go.Proofs.YtcofhdoeaiknkaaGreatDoor.Lo

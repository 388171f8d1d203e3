/-
  A run in pieces.
-/
import Derived.Test.YtcofhdoeaiknkaaGreatDoorLoS0
namespace Go.Proofs.YtcofhdoeaiknkaaGreatDoor.Lo
open Go.AX
noncomputable section

set_option maxRecDepth 1000000 in
theorem piece3 : txtK P noHook 4 [11292,1,1696,0] [3,59,60,199,200,468,510,511,512,515,516,519,520,589,603,617,618,619,620,621,622,623,624,625,626,785,788,789,790,791,792,793,794,805,808,809,816,817] [] st2 = some st3 := by kernel_rfl

set_option maxRecDepth 1000000 in
theorem piece4 : txtK P noHook 4 [12174,1,823,0] [3,59,60,199,200,468,510,511,512,515,516,519,520,589,603,617,618,886,887,888,889,890,891,892,893,894,1053,1056,1057,1058,1059,1060,1061,1062] [] st3 = some st4 := by kernel_rfl

end
end Go.Proofs.YtcofhdoeaiknkaaGreatDoor.Lo

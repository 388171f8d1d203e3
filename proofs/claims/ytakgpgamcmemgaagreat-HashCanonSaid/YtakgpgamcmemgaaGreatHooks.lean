/-
  What is known of calls at this seat.
-/
import Derived.Test.YtakgpgamcmemgaaGreatSorted
import Derived.Test.YtakgpgamcmemgaaGreatCrc
import Derived.Test.YtakgpgamcmemgaaGreatTabE
import Derived.Test.YtakgpgamcmemgaaGreatAxG
namespace Go.Proofs.YtakgpgamcmemgaaGreat
open Go.AX
noncomputable section

/-- The table's numbers. -/
def natsOf : List AV → List Nat
  | [] => []
  | .int _ (.ofNat n) :: l => n :: natsOf l
  | _ :: _ => []

def cellsOfV : AV → List AV
  | .agg l => l
  | _ => []

noncomputable def tabT : T Nat := T.fill .e 0 (natsOf (cellsOfV Tab.val))

theorem crc_ok : HookOk Tryz.prog (Crc.crcHook tabT) :=
  Crc.crcHook_ok (K := knownHook 84 Tab.val) (vals := cellsOfV Tab.val) (knownHook_ok (by kernel_rfl) Tab.known) (fun h => by kernel_rfl) (by kernel_rfl)

noncomputable def hk : Hook := orHook (pureHook Tryz.prog noHook 300 [113]) (orHook sortedK (orHook (Crc.crcHook tabT) (knownHook 84 Tab.val)))

theorem hk_ok : HookOk Tryz.prog hk := orHook_ok (pureHook_ok (noHook_ok _) 300 [113]) (orHook_ok sortedK_ok (orHook_ok crc_ok (knownHook_ok (by kernel_rfl) Tab.known)))

end
end Go.Proofs.YtakgpgamcmemgaaGreat

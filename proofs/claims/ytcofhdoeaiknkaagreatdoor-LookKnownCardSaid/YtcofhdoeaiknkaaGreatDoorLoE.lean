/-
  A run in pieces: what comes of all.
-/
import Derived.Test.YtcofhdoeaiknkaaGreatDoorLoP0
import Derived.Test.YtcofhdoeaiknkaaGreatDoorLoP1
import Derived.Test.YtcofhdoeaiknkaaGreatDoorLoP2
import Derived.Test.YtcofhdoeaiknkaaGreatDoorLoP3
import Derived.Test.YtcofhdoeaiknkaaGreatDoorLoP4
import Derived.Test.YtcofhdoeaiknkaaGreatDoorLoP5
import Derived.Test.YtcofhdoeaiknkaaGreatDoorLoP6
namespace Go.Proofs.YtcofhdoeaiknkaaGreatDoor.Lo
open Go.AX
noncomputable section

theorem begun : (⟨st0.fr, [], h0⟩ : S) = st0 := by kernel_rfl

set_option maxRecDepth 1000000 in
theorem last : (fun s => yes (runA P noHook 3 2 s) = true) st13 := by
  show yes (runA P noHook 3 2 st13) = true
  kernel_rfl

set_option maxRecDepth 100000 in
theorem comes : AX.Comes P (⟨st0.fr, [], h0⟩ : S) (fun s => yes (runA P noHook 3 2 s) = true) := by
  rw [begun]
  exact ((comes_txtK (noHook_ok P) piece1).then
    ((comes_txtK (noHook_ok P) piece2).then
    ((comes_txtK (noHook_ok P) piece3).then
    ((comes_txtK (noHook_ok P) piece4).then
    ((comes_txtK (noHook_ok P) piece5).then
    ((comes_txtK (noHook_ok P) piece6).then
    ((comes_txtK (noHook_ok P) piece7).then
    ((comes_txtK (noHook_ok P) piece8).then
    ((comes_txtK (noHook_ok P) piece9).then
    ((comes_txtK (noHook_ok P) piece10).then
    ((comes_txtK (noHook_ok P) piece11).then
    ((comes_txtK (noHook_ok P) piece12).then
    ((comes_txtK (noHook_ok P) piece13).then
    (AX.Comes.of_reach (AX.Reach.refl st13) last))))))))))))))

theorem walk (w : World) (φ : Phi) (hr : HR ⟨w.heap.size, fun _ => none⟩ φ h0 w) : Calls P 3 #[] w fun e w' => e = .returned (.bool true) ∧ Go.RowKit.Below w.heap.size w w' :=
  calls_true_comes (fr0 := st0.fr) (noHook_ok P) (by kernel_rfl) comes hr

end
end Go.Proofs.YtcofhdoeaiknkaaGreatDoor.Lo

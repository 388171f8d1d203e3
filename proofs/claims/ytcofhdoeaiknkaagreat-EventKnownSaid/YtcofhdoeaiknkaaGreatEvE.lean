/-
  A run in pieces: what comes of all.
-/
import Derived.Test.YtcofhdoeaiknkaaGreatEvP0
import Derived.Test.YtcofhdoeaiknkaaGreatEvP1
import Derived.Test.YtcofhdoeaiknkaaGreatEvP2
import Derived.Test.YtcofhdoeaiknkaaGreatEvP3
import Derived.Test.YtcofhdoeaiknkaaGreatEvP4
import Derived.Test.YtcofhdoeaiknkaaGreatEvP5
import Derived.Test.YtcofhdoeaiknkaaGreatEvP6
import Derived.Test.YtcofhdoeaiknkaaGreatEvP7
import Derived.Test.YtcofhdoeaiknkaaGreatEvP8
import Derived.Test.YtcofhdoeaiknkaaGreatEvP9
import Derived.Test.YtcofhdoeaiknkaaGreatEvP10
import Derived.Test.YtcofhdoeaiknkaaGreatEvP11
import Derived.Test.YtcofhdoeaiknkaaGreatEvP12
import Derived.Test.YtcofhdoeaiknkaaGreatEvP13
import Derived.Test.YtcofhdoeaiknkaaGreatEvP14
import Derived.Test.YtcofhdoeaiknkaaGreatEvP15
import Derived.Test.YtcofhdoeaiknkaaGreatEvP16
import Derived.Test.YtcofhdoeaiknkaaGreatEvP17
import Derived.Test.YtcofhdoeaiknkaaGreatEvP18
import Derived.Test.YtcofhdoeaiknkaaGreatEvP19
import Derived.Test.YtcofhdoeaiknkaaGreatEvP20
import Derived.Test.YtcofhdoeaiknkaaGreatEvP21
import Derived.Test.YtcofhdoeaiknkaaGreatEvP22
import Derived.Test.YtcofhdoeaiknkaaGreatEvP23
import Derived.Test.YtcofhdoeaiknkaaGreatEvP24
import Derived.Test.YtcofhdoeaiknkaaGreatEvP25
namespace Go.Proofs.YtcofhdoeaiknkaaGreat.Ev
open Go.AX
noncomputable section

theorem begun : (⟨st0.fr, [], ⟨.e, 0, 0⟩⟩ : S) = st0 := by kernel_rfl

set_option maxRecDepth 1000000 in
theorem last : (fun s => yes (runA P hk 3 2 s) = true) st52 := by
  show yes (runA P hk 3 2 st52) = true
  kernel_rfl

set_option maxRecDepth 100000 in
theorem comes : AX.Comes P (⟨st0.fr, [], ⟨.e, 0, 0⟩⟩ : S) (fun s => yes (runA P hk 3 2 s) = true) := by
  rw [begun]
  exact ((comes_txtK hk_ok piece1).then
    ((comes_txtK hk_ok piece2).then
    ((comes_txtK hk_ok piece3).then
    ((comes_txtK hk_ok piece4).then
    ((comes_txtK hk_ok piece5).then
    ((comes_txtK hk_ok piece6).then
    ((comes_txtK hk_ok piece7).then
    ((comes_txtK hk_ok piece8).then
    ((comes_txtK hk_ok piece9).then
    ((comes_txtK hk_ok piece10).then
    ((comes_txtK hk_ok piece11).then
    ((comes_txtK hk_ok piece12).then
    ((comes_txtK hk_ok piece13).then
    ((comes_txtK hk_ok piece14).then
    ((comes_txtK hk_ok piece15).then
    ((comes_txtK hk_ok piece16).then
    ((comes_txtK hk_ok piece17).then
    ((comes_txtK hk_ok piece18).then
    ((comes_txtK hk_ok piece19).then
    ((comes_txtK hk_ok piece20).then
    ((comes_txtK hk_ok piece21).then
    ((comes_txtK hk_ok piece22).then
    ((comes_txtK hk_ok piece23).then
    ((comes_txtK hk_ok piece24).then
    ((comes_txtK hk_ok piece25).then
    ((comes_txtK hk_ok piece26).then
    ((comes_txtK hk_ok piece27).then
    ((comes_txtK hk_ok piece28).then
    ((comes_txtK hk_ok piece29).then
    ((comes_txtK hk_ok piece30).then
    ((comes_txtK hk_ok piece31).then
    ((comes_txtK hk_ok piece32).then
    ((comes_txtK hk_ok piece33).then
    ((comes_txtK hk_ok piece34).then
    ((comes_txtK hk_ok piece35).then
    ((comes_txtK hk_ok piece36).then
    ((comes_txtK hk_ok piece37).then
    ((comes_txtK hk_ok piece38).then
    ((comes_txtK hk_ok piece39).then
    ((comes_txtK hk_ok piece40).then
    ((comes_txtK hk_ok piece41).then
    ((comes_txtK hk_ok piece42).then
    ((comes_txtK hk_ok piece43).then
    ((comes_txtK hk_ok piece44).then
    ((comes_txtK hk_ok piece45).then
    ((comes_txtK hk_ok piece46).then
    ((comes_txtK hk_ok piece47).then
    ((comes_txtK hk_ok piece48).then
    ((comes_txtK hk_ok piece49).then
    ((comes_txtK hk_ok piece50).then
    ((comes_txtK hk_ok piece51).then
    ((comes_txtK hk_ok piece52).then
    (AX.Comes.of_reach (AX.Reach.refl st52) last)))))))))))))))))))))))))))))))))))))))))))))))))))))

theorem walk (w : World) : Calls P 3 #[] w fun e w' => e = .returned (.bool true) ∧ Go.RowKit.Below w.heap.size w w' :=
  calls_true_comes0 (fr0 := st0.fr) hk_ok (by kernel_rfl) comes w

end
end Go.Proofs.YtcofhdoeaiknkaaGreat.Ev

/-
  A run in pieces: what comes of all.
-/
import Derived.Test.YtcofhdoeaiknkaaGreatHaP0
import Derived.Test.YtcofhdoeaiknkaaGreatHaP1
import Derived.Test.YtcofhdoeaiknkaaGreatHaP2
import Derived.Test.YtcofhdoeaiknkaaGreatHaP3
import Derived.Test.YtcofhdoeaiknkaaGreatHaP4
import Derived.Test.YtcofhdoeaiknkaaGreatHaP5
import Derived.Test.YtcofhdoeaiknkaaGreatHaP6
import Derived.Test.YtcofhdoeaiknkaaGreatHaP7
import Derived.Test.YtcofhdoeaiknkaaGreatHaP8
import Derived.Test.YtcofhdoeaiknkaaGreatHaP9
import Derived.Test.YtcofhdoeaiknkaaGreatHaP10
import Derived.Test.YtcofhdoeaiknkaaGreatHaP11
import Derived.Test.YtcofhdoeaiknkaaGreatHaP12
namespace Go.Proofs.YtcofhdoeaiknkaaGreat.Ha
open Go.AX
noncomputable section

theorem begun : (⟨st0.fr, [], ⟨.e, 0, 0⟩⟩ : S) = st0 := by kernel_rfl

set_option maxRecDepth 1000000 in
theorem last : (fun s => yes (runA P hk 4 2 s) = true) st25 := by
  show yes (runA P hk 4 2 st25) = true
  kernel_rfl

set_option maxRecDepth 100000 in
theorem comes : AX.Comes P (⟨st0.fr, [], ⟨.e, 0, 0⟩⟩ : S) (fun s => yes (runA P hk 4 2 s) = true) := by
  rw [begun]
  exact ((comes_txtK hk_ok piece1).then
    ((comes_txtK hk_ok piece2).then
    ((comes_txtK hk_ok piece3).then
    ((comes_txtK hk_ok piece4).then
    ((comes_txtK hk_ok piece5).then
    ((comes_txtK hk_ok piece6).then
    ((comes_txtK hk_ok piece7).then
    ((comes_txtK hk_ok piece8).then
    ((comes_txtK hk_ok piece9).then
    ((comes_txtK hk_ok piece10).then
    ((comes_txtK hk_ok piece11).then
    ((comes_txtK hk_ok piece12).then
    ((comes_txtK hk_ok piece13).then
    ((comes_txtK hk_ok piece14).then
    ((comes_txtK hk_ok piece15).then
    ((comes_txtK hk_ok piece16).then
    ((comes_txtK hk_ok piece17).then
    ((comes_txtK hk_ok piece18).then
    ((comes_txtK hk_ok piece19).then
    ((comes_txtK hk_ok piece20).then
    ((comes_txtK hk_ok piece21).then
    ((comes_txtK hk_ok piece22).then
    ((comes_txtK hk_ok piece23).then
    ((comes_txtK hk_ok piece24).then
    ((comes_txtK hk_ok piece25).then
    (AX.Comes.of_reach (AX.Reach.refl st25) last))))))))))))))))))))))))))

theorem walk (w : World) : Calls P 4 #[] w fun e w' => e = .returned (.bool true) ∧ Go.RowKit.Below w.heap.size w w' :=
  calls_true_comes0 (fr0 := st0.fr) hk_ok (by kernel_rfl) comes w

end
end Go.Proofs.YtcofhdoeaiknkaaGreat.Ha

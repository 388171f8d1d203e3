/-
  A run in pieces: what comes of all.
-/
import Derived.Test.YtcofhdoeaiknkaaGreatWaP0
import Derived.Test.YtcofhdoeaiknkaaGreatWaP1
import Derived.Test.YtcofhdoeaiknkaaGreatWaP2
import Derived.Test.YtcofhdoeaiknkaaGreatWaP3
import Derived.Test.YtcofhdoeaiknkaaGreatWaP4
import Derived.Test.YtcofhdoeaiknkaaGreatWaP5
import Derived.Test.YtcofhdoeaiknkaaGreatWaP6
import Derived.Test.YtcofhdoeaiknkaaGreatWaP7
import Derived.Test.YtcofhdoeaiknkaaGreatWaP8
import Derived.Test.YtcofhdoeaiknkaaGreatWaP9
import Derived.Test.YtcofhdoeaiknkaaGreatWaP10
import Derived.Test.YtcofhdoeaiknkaaGreatWaP11
import Derived.Test.YtcofhdoeaiknkaaGreatWaP12
import Derived.Test.YtcofhdoeaiknkaaGreatWaP13
import Derived.Test.YtcofhdoeaiknkaaGreatWaP14
namespace Go.Proofs.YtcofhdoeaiknkaaGreat.Wa
open Go.AX
noncomputable section

theorem begun : (⟨st0.fr, [], ⟨.e, 0, 0⟩⟩ : S) = st0 := by kernel_rfl

set_option maxRecDepth 1000000 in
theorem last : (fun s => yes (runA P hk 7 2 s) = true) st30 := by
  show yes (runA P hk 7 2 st30) = true
  kernel_rfl

set_option maxRecDepth 100000 in
theorem comes : AX.Comes P (⟨st0.fr, [], ⟨.e, 0, 0⟩⟩ : S) (fun s => yes (runA P hk 7 2 s) = true) := by
  rw [begun]
  exact ((comes_txtK hk_ok piece1).then
    ((comes_txtK hk_ok piece2).then
    ((comes_txtK hk_ok piece3).then
    ((comes_txtK hk_ok piece4).then
    ((comes_txtK hk_ok piece5).then
    ((comes_txtK hk_ok piece6).then
    ((comes_txtK hk_ok piece7).then
    ((comes_txtK hk_ok piece8).then
    ((comes_txtK hk_ok piece9).then
    ((comes_txtK hk_ok piece10).then
    ((comes_txtK hk_ok piece11).then
    ((comes_txtK hk_ok piece12).then
    ((comes_txtK hk_ok piece13).then
    ((comes_txtK hk_ok piece14).then
    ((comes_txtK hk_ok piece15).then
    ((comes_txtK hk_ok piece16).then
    ((comes_txtK hk_ok piece17).then
    ((comes_txtK hk_ok piece18).then
    ((AX.Comes.trans (R := fun s => s = st22) (Q := fun s => s = st19 ∨ s = st20) (comes_planK hk_ok fork18 ⟨(.inl rfl), (.inr (rfl)), trivial⟩) (fun _ hs => by
      rcases hs with rfl | rfl
      · exact ((comes_txtK hk_ok piece21).then ((comes_txtK hk_ok piece22).then (AX.Comes.of_reach (AX.Reach.refl st22) rfl)))
      · exact ((comes_txtK hk_ok piece23).then ((comes_txtK hk_ok piece24).then (AX.Comes.of_reach (AX.Reach.refl st24) same24)))
      )).then
    ((AX.Comes.of_reach (Q := fun s => s = st25) (AX.Reach.refl st22) same25).then
    ((comes_txtK hk_ok piece26).then
    ((comes_txtK hk_ok piece27).then
    ((comes_txtK hk_ok piece28).then
    ((comes_txtK hk_ok piece29).then
    ((comes_txtK hk_ok piece30).then
    (AX.Comes.of_reach (AX.Reach.refl st30) last))))))))))))))))))))))))))

theorem walk (w : World) : Calls P 7 #[] w fun e w' => e = .returned (.bool true) ∧ Go.RowKit.Below w.heap.size w w' :=
  calls_true_comes0 (fr0 := st0.fr) hk_ok (by kernel_rfl) comes w

end
end Go.Proofs.YtcofhdoeaiknkaaGreat.Wa

/-
  A run in pieces: what comes of all.
-/
import Derived.Test.YtcofhdoeaiknkaaGreatStP0
import Derived.Test.YtcofhdoeaiknkaaGreatStP1
import Derived.Test.YtcofhdoeaiknkaaGreatStP2
import Derived.Test.YtcofhdoeaiknkaaGreatStP3
import Derived.Test.YtcofhdoeaiknkaaGreatStP4
import Derived.Test.YtcofhdoeaiknkaaGreatStP5
import Derived.Test.YtcofhdoeaiknkaaGreatStP6
import Derived.Test.YtcofhdoeaiknkaaGreatStP7
import Derived.Test.YtcofhdoeaiknkaaGreatStP8
import Derived.Test.YtcofhdoeaiknkaaGreatStP9
import Derived.Test.YtcofhdoeaiknkaaGreatStP10
import Derived.Test.YtcofhdoeaiknkaaGreatStP11
import Derived.Test.YtcofhdoeaiknkaaGreatStP12
import Derived.Test.YtcofhdoeaiknkaaGreatStP13
import Derived.Test.YtcofhdoeaiknkaaGreatStP14
import Derived.Test.YtcofhdoeaiknkaaGreatStP15
import Derived.Test.YtcofhdoeaiknkaaGreatStP16
import Derived.Test.YtcofhdoeaiknkaaGreatStP17
import Derived.Test.YtcofhdoeaiknkaaGreatStP18
import Derived.Test.YtcofhdoeaiknkaaGreatStP19
namespace Go.Proofs.YtcofhdoeaiknkaaGreat.St
open Go.AX
noncomputable section

theorem begun : (⟨st0.fr, [], ⟨.e, 0, 0⟩⟩ : S) = st0 := by kernel_rfl

set_option maxRecDepth 1000000 in
theorem last : (fun s => yes (runA P hk 5 2 s) = true) st40 := by
  show yes (runA P hk 5 2 st40) = true
  kernel_rfl

set_option maxRecDepth 100000 in
theorem comes : AX.Comes P (⟨st0.fr, [], ⟨.e, 0, 0⟩⟩ : S) (fun s => yes (runA P hk 5 2 s) = true) := by
  rw [begun]
  exact ((comes_txtK hk_ok piece1).then
    ((comes_txtK hk_ok piece2).then
    ((comes_txtK hk_ok piece3).then
    ((comes_txtK hk_ok piece4).then
    ((comes_txtK hk_ok piece5).then
    ((comes_txtK hk_ok piece6).then
    ((comes_txtK hk_ok piece7).then
    ((comes_txtK hk_ok piece8).then
    ((comes_txtK hk_ok piece9).then
    ((comes_txtK hk_ok piece10).then
    ((comes_txtK hk_ok piece11).then
    ((comes_txtK hk_ok piece12).then
    ((comes_txtK hk_ok piece13).then
    ((comes_txtK hk_ok piece14).then
    ((AX.Comes.trans (R := fun s => s = st19) (Q := fun s => s = st15 ∨ s = st16) (comes_planK hk_ok fork14 ⟨(.inl rfl), (.inr (rfl)), trivial⟩) (fun _ hs => by
      rcases hs with rfl | rfl
      · exact ((comes_txtK hk_ok piece17).then ((comes_txtK hk_ok piece18).then ((comes_txtK hk_ok piece19).then (AX.Comes.of_reach (AX.Reach.refl st19) rfl))))
      · exact ((comes_txtK hk_ok piece20).then ((comes_txtK hk_ok piece21).then ((comes_txtK hk_ok piece22).then (AX.Comes.of_reach (AX.Reach.refl st22) same22))))
      )).then
    ((AX.Comes.of_reach (Q := fun s => s = st23) (AX.Reach.refl st19) same23).then
    ((comes_txtK hk_ok piece24).then
    ((comes_txtK hk_ok piece25).then
    ((comes_txtK hk_ok piece26).then
    ((comes_txtK hk_ok piece27).then
    ((comes_txtK hk_ok piece28).then
    ((comes_txtK hk_ok piece29).then
    ((comes_txtK hk_ok piece30).then
    ((comes_txtK hk_ok piece31).then
    ((comes_txtK hk_ok piece32).then
    ((comes_txtK hk_ok piece33).then
    ((comes_txtK hk_ok piece34).then
    ((comes_txtK hk_ok piece35).then
    ((comes_txtK hk_ok piece36).then
    ((comes_txtK hk_ok piece37).then
    ((comes_txtK hk_ok piece38).then
    ((comes_txtK hk_ok piece39).then
    ((comes_txtK hk_ok piece40).then
    (AX.Comes.of_reach (AX.Reach.refl st40) last))))))))))))))))))))))))))))))))))

theorem walk (w : World) : Calls P 5 #[] w fun e w' => e = .returned (.bool true) ∧ Go.RowKit.Below w.heap.size w w' :=
  calls_true_comes0 (fr0 := st0.fr) hk_ok (by kernel_rfl) comes w

end
end Go.Proofs.YtcofhdoeaiknkaaGreat.St

/-
  A run in pieces: what comes of all.
-/
import Derived.Test.YtakgpgamcmemgaaGreatWkP0
import Derived.Test.YtakgpgamcmemgaaGreatWkP1
import Derived.Test.YtakgpgamcmemgaaGreatWkP2
import Derived.Test.YtakgpgamcmemgaaGreatWkP3
import Derived.Test.YtakgpgamcmemgaaGreatWkP4
namespace Go.Proofs.YtakgpgamcmemgaaGreat.Wk
open Go.AX
noncomputable section

theorem begun : (⟨st0.fr, [], ⟨.e, 0, 0⟩⟩ : S) = st0 := by kernel_rfl

noncomputable def val : AV := tt

set_option maxRecDepth 1000000 in
theorem last : (fun s => vals (runA P hk 6 2 s) = some val) st9 := by
  show vals (runA P hk 6 2 st9) = some val
  kernel_rfl

set_option maxRecDepth 100000 in
theorem comes : AX.Comes P (⟨st0.fr, [], ⟨.e, 0, 0⟩⟩ : S) (fun s => vals (runA P hk 6 2 s) = some val) := by
  rw [begun]
  exact ((comes_txtK hk_ok piece1).then
    ((comes_txtK hk_ok piece2).then
    ((comes_txtK hk_ok piece3).then
    ((comes_txtK hk_ok piece4).then
    ((comes_txtK hk_ok piece5).then
    ((comes_txtK hk_ok piece6).then
    ((comes_txtK hk_ok piece7).then
    ((comes_txtK hk_ok piece8).then
    ((comes_txtK hk_ok piece9).then
    (AX.Comes.of_reach (AX.Reach.refl st9) last))))))))))

theorem known : KnownOk P 6 val := known_of_comes (fr0 := st0.fr) hk_ok (by kernel_rfl) comes

end
end Go.Proofs.YtakgpgamcmemgaaGreat.Wk

/-
  A run in pieces: what comes of all.
-/
import Derived.Test.YtcofhdoeaiknkaaGreatCoP0
import Derived.Test.YtcofhdoeaiknkaaGreatCoP1
import Derived.Test.YtcofhdoeaiknkaaGreatCoP2
import Derived.Test.YtcofhdoeaiknkaaGreatCoP3
import Derived.Test.YtcofhdoeaiknkaaGreatCoP4
import Derived.Test.YtcofhdoeaiknkaaGreatCoP5
import Derived.Test.YtcofhdoeaiknkaaGreatCoP6
import Derived.Test.YtcofhdoeaiknkaaGreatCoP7
import Derived.Test.YtcofhdoeaiknkaaGreatCoP8
import Derived.Test.YtcofhdoeaiknkaaGreatCoP9
import Derived.Test.YtcofhdoeaiknkaaGreatCoP10
import Derived.Test.YtcofhdoeaiknkaaGreatCoP11
import Derived.Test.YtcofhdoeaiknkaaGreatCoP12
import Derived.Test.YtcofhdoeaiknkaaGreatCoP13
import Derived.Test.YtcofhdoeaiknkaaGreatCoP14
import Derived.Test.YtcofhdoeaiknkaaGreatCoP15
import Derived.Test.YtcofhdoeaiknkaaGreatCoP16
import Derived.Test.YtcofhdoeaiknkaaGreatCoP17
import Derived.Test.YtcofhdoeaiknkaaGreatCoP18
import Derived.Test.YtcofhdoeaiknkaaGreatCoP19
import Derived.Test.YtcofhdoeaiknkaaGreatCoP20
import Derived.Test.YtcofhdoeaiknkaaGreatCoP21
import Derived.Test.YtcofhdoeaiknkaaGreatCoP22
import Derived.Test.YtcofhdoeaiknkaaGreatCoP23
import Derived.Test.YtcofhdoeaiknkaaGreatCoP24
import Derived.Test.YtcofhdoeaiknkaaGreatCoP25
import Derived.Test.YtcofhdoeaiknkaaGreatCoP26
import Derived.Test.YtcofhdoeaiknkaaGreatCoP27
namespace Go.Proofs.YtcofhdoeaiknkaaGreat.Co
open Go.AX
noncomputable section

theorem begun : (⟨st0.fr, [], ⟨.e, 0, 0⟩⟩ : S) = st0 := by kernel_rfl

set_option maxRecDepth 1000000 in
theorem last : (fun s => yes (runA P hk 6 2 s) = true) st82 := by
  show yes (runA P hk 6 2 st82) = true
  kernel_rfl

set_option maxRecDepth 100000 in
theorem comes : AX.Comes P (⟨st0.fr, [], ⟨.e, 0, 0⟩⟩ : S) (fun s => yes (runA P hk 6 2 s) = true) := by
  rw [begun]
  exact ((comes_txtK hk_ok piece1).then
    ((comes_txtK hk_ok piece2).then
    ((comes_txtK hk_ok piece3).then
    ((comes_txtK hk_ok piece4).then
    ((comes_txtK hk_ok piece5).then
    ((comes_txtK hk_ok piece6).then
    ((comes_txtK hk_ok piece7).then
    ((comes_txtK hk_ok piece8).then
    ((comes_txtK hk_ok piece9).then
    ((comes_txtK hk_ok piece10).then
    ((comes_txtK hk_ok piece11).then
    ((comes_txtK hk_ok piece12).then
    ((comes_txtK hk_ok piece13).then
    ((comes_txtK hk_ok piece14).then
    ((comes_txtK hk_ok piece15).then
    ((comes_txtK hk_ok piece16).then
    ((comes_txtK hk_ok piece17).then
    ((comes_txtK hk_ok piece18).then
    ((comes_txtK hk_ok piece19).then
    ((comes_txtK hk_ok piece20).then
    ((comes_txtK hk_ok piece21).then
    ((comes_txtK hk_ok piece22).then
    ((comes_txtK hk_ok piece23).then
    ((comes_txtK hk_ok piece24).then
    ((comes_txtK hk_ok piece25).then
    ((comes_txtK hk_ok piece26).then
    ((comes_txtK hk_ok piece27).then
    ((comes_txtK hk_ok piece28).then
    ((comes_txtK hk_ok piece29).then
    ((comes_txtK hk_ok piece30).then
    ((comes_txtK hk_ok piece31).then
    ((comes_txtK hk_ok piece32).then
    ((comes_txtK hk_ok piece33).then
    ((comes_txtK hk_ok piece34).then
    ((comes_txtK hk_ok piece35).then
    ((comes_txtK hk_ok piece36).then
    ((comes_txtK hk_ok piece37).then
    ((comes_txtK hk_ok piece38).then
    ((comes_txtK hk_ok piece39).then
    ((comes_txtK hk_ok piece40).then
    ((comes_txtK hk_ok piece41).then
    ((comes_txtK hk_ok piece42).then
    ((comes_txtK hk_ok piece43).then
    ((comes_txtK hk_ok piece44).then
    ((comes_txtK hk_ok piece45).then
    ((comes_txtK hk_ok piece46).then
    ((comes_txtK hk_ok piece47).then
    ((comes_txtK hk_ok piece48).then
    ((comes_txtK hk_ok piece49).then
    ((comes_txtK hk_ok piece50).then
    ((comes_txtK hk_ok piece51).then
    ((comes_txtK hk_ok piece52).then
    ((comes_txtK hk_ok piece53).then
    ((comes_txtK hk_ok piece54).then
    ((comes_txtK hk_ok piece55).then
    ((comes_txtK hk_ok piece56).then
    ((comes_txtK hk_ok piece57).then
    ((comes_txtK hk_ok piece58).then
    ((comes_txtK hk_ok piece59).then
    ((comes_txtK hk_ok piece60).then
    ((comes_txtK hk_ok piece61).then
    ((comes_txtK hk_ok piece62).then
    ((comes_txtK hk_ok piece63).then
    ((comes_txtK hk_ok piece64).then
    ((comes_txtK hk_ok piece65).then
    ((comes_txtK hk_ok piece66).then
    ((comes_txtK hk_ok piece67).then
    ((comes_txtK hk_ok piece68).then
    ((comes_txtK hk_ok piece69).then
    ((comes_txtK hk_ok piece70).then
    ((comes_txtK hk_ok piece71).then
    ((comes_txtK hk_ok piece72).then
    ((comes_txtK hk_ok piece73).then
    ((comes_txtK hk_ok piece74).then
    ((comes_txtK hk_ok piece75).then
    ((comes_txtK hk_ok piece76).then
    ((comes_txtK hk_ok piece77).then
    ((comes_txtK hk_ok piece78).then
    ((comes_txtK hk_ok piece79).then
    ((comes_txtK hk_ok piece80).then
    ((comes_txtK hk_ok piece81).then
    ((comes_txtK hk_ok piece82).then
    (AX.Comes.of_reach (AX.Reach.refl st82) last)))))))))))))))))))))))))))))))))))))))))))))))))))))))))))))))))))))))))))))))))))

theorem walk (w : World) : Calls P 6 #[] w fun e w' => e = .returned (.bool true) ∧ Go.RowKit.Below w.heap.size w w' :=
  calls_true_comes0 (fr0 := st0.fr) hk_ok (by kernel_rfl) comes w

end
end Go.Proofs.YtcofhdoeaiknkaaGreat.Co

/-
  The package-level variable that is read at this seat.
-/
import Derived.Test.YtcofhdoeaiknkaaGreatDoorAxG
import Derived.Test.YtcofhdoeaiknkaaGreatDoorRows
import Derived.KernelRfl
import Derived.Lib.LaidU8
namespace Go.Proofs.YtcofhdoeaiknkaaGreatDoor
open Go.AX
noncomputable section

def tab64 : List Int := [0, 1, 56, 2, 57, 49, 28, 3, 61, 58, 42, 50, 38, 29, 17, 4, 62, 47, 59, 36, 45, 43, 51, 22, 53, 39, 33, 30, 24, 18, 12, 5, 63, 55, 48, 27, 60, 41, 37, 16, 46, 35, 44, 21, 52, 32, 23, 11, 54, 26, 40, 15, 34, 20, 31, 10, 25, 14, 19, 9, 13, 8, 7, 6]

noncomputable def h0 : H := tabH 4 3 .u8 tab64

theorem start {w : World} {l : List (String × DataW Unit)} (h : laidMet Tryz.prog l w) (hm : ("math/bits.deBruijn64tab", Rows.laid_math_bits_deBruijn64tab) ∈ l) :
    HR ⟨w.heap.size, fun _ => none⟩ (globPhi 4) h0 w := by
  obtain ⟨g, t, cs, fuel, p, hg, hty, hvar, hd⟩ := Go.Lib.laidMet.reads h hm
  have e1 : Tryz.prog.globalNamed "math/bits.deBruijn64tab" = some 3 := by kernel_rfl
  have e2 : (Tryz.prog.globals[3]?).map (·.type) = some 313 := by kernel_rfl
  obtain rfl := Option.some.inj (e1.symm.trans hg)
  obtain rfl := Option.some.inj (e2.symm.trans hty)
  have hcs := Go.Lib.cells_of_tab (k := .u8) (zs := tab64) Tryz.underlying313 Tryz.underlying5 (by kernel_rfl) (by kernel_rfl) hd
  unfold World.var? at hvar
  rw [hg] at hvar
  simp only [Option.bind_some] at hvar
  split at hvar
  · rename_i c t' frz hb
    cases hvar
    exact HR_tab (by decide) hb hcs
  · cases hvar

end
end Go.Proofs.YtcofhdoeaiknkaaGreatDoor

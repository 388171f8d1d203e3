/-
  What is known of calls at this seat; the package-level variable that is read.
-/
import Derived.Test.YtnhnhiieomhgfaaGreatDoorSorted
import Derived.Test.YtnhnhiieomhgfaaGreatDoorCrc
import Derived.Test.YtnhnhiieomhgfaaGreatDoorTabE
import Derived.Test.YtnhnhiieomhgfaaGreatDoorRows
import Derived.Lib.LaidU8
namespace Go.Proofs.YtnhnhiieomhgfaaGreatDoor
open Go.AX
noncomputable section

theorem ext183 : ExtIs Tryz.prog 183 Extern.AbiNoEscape.same := ⟨Tryz.f183, Tryz.func183, by kernel_rfl, by kernel_rfl, by kernel_rfl, by kernel_rfl⟩

theorem ext184 : ExtIs Tryz.prog 184 (Extern.BytealgMakeNoZero.makeNoZero Tryz.f184.params #[33]) := ⟨Tryz.f184, Tryz.func184, by kernel_rfl, by kernel_rfl, by kernel_rfl, by kernel_rfl⟩

/-- The table's numbers. -/
def natsOf : List AV → List Nat
  | [] => []
  | .int _ (.ofNat n) :: l => n :: natsOf l
  | _ :: _ => []

def cellsOfV : AV → List AV
  | .agg l => l
  | _ => []

noncomputable def tabT : T Nat := T.fill .e 0 (natsOf (cellsOfV Tab.val))

theorem crc_ok : HookOk Tryz.prog (Crc.crcHook tabT) :=
  Crc.crcHook_ok (K := knownHook 185 Tab.val) (vals := cellsOfV Tab.val) (knownHook_ok (by kernel_rfl) Tab.known) (fun h => by kernel_rfl) (by kernel_rfl)

noncomputable def hkC : Hook := orHook sortedK (orHook (orHook (noEscapeHook 183) (makeHook 184 5)) (orHook (repeatHook 15) (orHook (Crc.crcHook tabT) (knownHook 185 Tab.val))))

theorem hkC_ok : HookOk Tryz.prog hkC :=
  orHook_ok sortedK_ok (orHook_ok (orHook_ok (noEscapeHook_ok ext183) (makeHook_ok Tryz.underlying33 ext184)) (orHook_ok (repeatHook_ok repeatOk) (orHook_ok crc_ok (knownHook_ok (by kernel_rfl) Tab.known))))

def tab64 : List Int := [0, 1, 56, 2, 57, 49, 28, 3, 61, 58, 42, 50, 38, 29, 17, 4, 62, 47, 59, 36, 45, 43, 51, 22, 53, 39, 33, 30, 24, 18, 12, 5, 63, 55, 48, 27, 60, 41, 37, 16, 46, 35, 44, 21, 52, 32, 23, 11, 54, 26, 40, 15, 34, 20, 31, 10, 25, 14, 19, 9, 13, 8, 7, 6]

noncomputable def h0 : H := tabH 8 7 .u8 tab64

theorem start {w : World} {l : List (String × DataW Unit)} (h : laidMet Tryz.prog l w) (hm : ("math/bits.deBruijn64tab", Rows.laid_math_bits_deBruijn64tab) ∈ l) :
    HR ⟨w.heap.size, fun _ => none⟩ (globPhi 8) h0 w := by
  obtain ⟨g, t, cs, fuel, p, hg, hty, hvar, hd⟩ := Go.Lib.laidMet.reads h hm
  have e1 : Tryz.prog.globalNamed "math/bits.deBruijn64tab" = some 7 := by kernel_rfl
  have e2 : (Tryz.prog.globals[7]?).map (·.type) = some 306 := by kernel_rfl
  obtain rfl := Option.some.inj (e1.symm.trans hg)
  obtain rfl := Option.some.inj (e2.symm.trans hty)
  have hcs := Go.Lib.cells_of_tab (k := .u8) (zs := tab64) Tryz.underlying306 Tryz.underlying5 (by kernel_rfl) (by kernel_rfl) hd
  unfold World.var? at hvar
  rw [hg] at hvar
  simp only [Option.bind_some] at hvar
  split at hvar
  · rename_i c t' frz hb
    cases hvar
    exact HR_tab (by decide) hb hcs
  · cases hvar

end
end Go.Proofs.YtnhnhiieomhgfaaGreatDoor

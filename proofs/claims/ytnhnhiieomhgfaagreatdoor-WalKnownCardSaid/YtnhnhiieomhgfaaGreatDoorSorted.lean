/-
  The keys of a map, sorted: AX's hooks at this dump.
-/
import Derived.Test.YtnhnhiieomhgfaaGreatDoorShelf
import Derived.Test.YtnhnhiieomhgfaaGreatDoorAxF
import Derived.ProofKit
namespace Go.Proofs.YtnhnhiieomhgfaaGreatDoor
open Go.RowKit Go.Maps Go.Sort Go.Shelf Go.Proofs Go.AX

theorem sorts46 (m : Nat) : AnyZ.SortsIn Tryz.prog Tryz.sorted46_ren Fence.wide m :=
  ⟨fun blk off cap ss W hH hblk hsz => callsIn_wide.2 (AnyM.slices_Sort_string Tryz.sort124 blk off cap ss W hH hblk hsz),
   fun p cap W => callsIn_wide.2 (AnyM.slices_Sort_string_none Tryz.sort124 p cap W)⟩

set_option maxHeartbeats 1000000 in
theorem sortedOk47 : AX.SortedOk Tryz.prog 46 125 9 := by
  intro Bm b nn D0 R w hBm hcell hown hmax hbytes
  exact (callsIn_wide (n := 5)).1 (AnyZ.sorted_in Tryz.sorted46 Fence.wide 5 trivial trivial trivial trivial rfl (by omega) (sorts46 _) (enters_of Tryz.func124 (by kernel_rfl) rfl) 125 #[.pointer (some ⟨Bm, 0, none⟩)] trivial (enters_of Tryz.func125 (by kernel_rfl) rfl) _ _ hmax hbytes _ (AnyZ.keys_gives (ρ := Tryz.keys47_ren) { Tryz.keys47 with } Fence.wide _ trivial rfl (by omega) Bm b nn D0 _ hBm hcell hown))

set_option maxHeartbeats 1000000 in
theorem sortedOk81 : AX.SortedOk Tryz.prog 46 152 9 := by
  intro Bm b nn D0 R w hBm hcell hown hmax hbytes
  exact (callsIn_wide (n := 5)).1 (AnyZ.sorted_in Tryz.sorted46 Fence.wide 5 trivial trivial trivial trivial rfl (by omega) (sorts46 _) (enters_of Tryz.func124 (by kernel_rfl) rfl) 152 #[.pointer (some ⟨Bm, 0, none⟩)] trivial (enters_of Tryz.func152 (by kernel_rfl) rfl) _ _ hmax hbytes _ (AnyZ.keys_gives (ρ := Tryz.keys81_ren) { Tryz.keys81 with } Fence.wide _ trivial rfl (by omega) Bm b nn D0 _ hBm hcell hown))

theorem repeatOk : AX.RepeatOk Tryz.prog 15 := fun s c w hc hlen => Any.strings_Repeat Tryz.lays105 Tryz.Builder_Extra_105 s c w hc hlen

noncomputable def sortedK : Hook := (orHook (sortedHook 46 125) (orHook (sortedHook 46 152) noHook))

theorem sortedK_ok : HookOk Tryz.prog sortedK := (orHook_ok (sortedHook_ok (by kernel_rfl) sortedOk47) (orHook_ok (sortedHook_ok (by kernel_rfl) sortedOk81) (noHook_ok _)))

end Go.Proofs.YtnhnhiieomhgfaaGreatDoor

/-
  The keys of a map, sorted: AX's hooks at this dump.
-/
import Derived.Test.YtnhnhiieomhgfaaShelf
import Derived.Test.YtnhnhiieomhgfaaAxGround
import Derived.ProofKit
namespace Go.Proofs.Ytnhnhiieomhgfaa
open Go.RowKit Go.Maps Go.Sort Go.Shelf Go.Proofs Go.AX

theorem sorts24 (m : Nat) : AnyZ.SortsIn Try.prog Try.sorted24_ren Fence.wide m :=
  ⟨fun blk off cap ss W hH hblk hsz => callsIn_wide.2 (AnyM.slices_Sort_string Try.sort49 blk off cap ss W hH hblk hsz),
   fun p cap W => callsIn_wide.2 (AnyM.slices_Sort_string_none Try.sort49 p cap W)⟩

set_option maxHeartbeats 1000000 in
theorem sortedOk25 : AX.SortedOk Try.prog 24 50 9 := by
  intro Bm b nn D0 R w hBm hcell hown hmax hbytes
  exact (callsIn_wide (n := 5)).1 (AnyZ.sorted_in Try.sorted24 Fence.wide 5 trivial trivial trivial trivial rfl (by omega) (sorts24 _) (enters_of Try.func49 (by kernel_rfl) rfl) 50 #[.pointer (some ⟨Bm, 0, none⟩)] trivial (enters_of Try.func50 (by kernel_rfl) rfl) _ _ hmax hbytes _ (AnyZ.keys_gives (ρ := Try.keys25_ren) { Try.keys25 with } Fence.wide _ trivial rfl (by omega) Bm b nn D0 _ hBm hcell hown))

set_option maxHeartbeats 1000000 in
theorem sortedOk44 : AX.SortedOk Try.prog 24 65 9 := by
  intro Bm b nn D0 R w hBm hcell hown hmax hbytes
  exact (callsIn_wide (n := 5)).1 (AnyZ.sorted_in Try.sorted24 Fence.wide 5 trivial trivial trivial trivial rfl (by omega) (sorts24 _) (enters_of Try.func49 (by kernel_rfl) rfl) 65 #[.pointer (some ⟨Bm, 0, none⟩)] trivial (enters_of Try.func65 (by kernel_rfl) rfl) _ _ hmax hbytes _ (AnyZ.keys_gives (ρ := Try.keys44_ren) { Try.keys44 with } Fence.wide _ trivial rfl (by omega) Bm b nn D0 _ hBm hcell hown))

noncomputable def sortedK : Hook := (orHook (sortedHook 24 50) (orHook (sortedHook 24 65) noHook))

theorem sortedK_ok : HookOk Try.prog sortedK := (orHook_ok (sortedHook_ok (by kernel_rfl) sortedOk25) (orHook_ok (sortedHook_ok (by kernel_rfl) sortedOk44) (noHook_ok _)))

end Go.Proofs.Ytnhnhiieomhgfaa

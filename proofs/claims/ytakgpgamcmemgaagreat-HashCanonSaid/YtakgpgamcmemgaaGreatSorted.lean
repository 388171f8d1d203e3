/-
  The keys of a map, sorted, and a text put into a row: AX's hooks at this dump.
-/
import Derived.Test.YtakgpgamcmemgaaGreatShelf
import Derived.Test.YtakgpgamcmemgaaGreatAxG
import Derived.ProofKit
set_option linter.unusedSimpArgs false
set_option linter.unusedVariables false
set_option linter.unusedSectionVars false
namespace Go.Proofs.YtakgpgamcmemgaaGreat
open Go.RowKit Go.Maps Go.Sort Go.Shelf Go.Proofs Go.AX
theorem sorts67 (m : Nat) : AnyZ.SortsIn Tryz.prog Tryz.sorted67_ren Fence.wide m :=
  ⟨fun blk off cap ss W hH hblk hsz => callsIn_wide.2 (AnyM.slices_Sort_string Tryz.sort141 blk off cap ss W hH hblk hsz),
   fun p cap W => callsIn_wide.2 (AnyM.slices_Sort_string_none Tryz.sort141 p cap W)⟩
set_option maxHeartbeats 1000000 in
theorem sortedOk68 : AX.SortedOk Tryz.prog 67 142 9 := by
  intro Bm b nn D0 R w hBm hcell hown hmax hbytes
  exact (callsIn_wide (n := 5)).1 (AnyZ.sorted_in Tryz.sorted67 Fence.wide 5 trivial trivial trivial trivial rfl (by omega) (sorts67 _) (enters_of Tryz.func141 (by kernel_rfl) rfl) 142 #[.pointer (some ⟨Bm, 0, none⟩)] trivial (enters_of Tryz.func142 (by kernel_rfl) rfl) _ _ hmax hbytes _ (AnyZ.keys_gives (ρ := Tryz.keys68_ren) { Tryz.keys68 with } Fence.wide _ trivial rfl (by omega) Bm b nn D0 _ hBm hcell hown))
theorem insOk284 : AX.InsOk Tryz.prog 284 9 := by
  refine ⟨fun b off n c i vb voff m vc cs vs w h1 h2 h3 h4 h5 h6 h7 h8 h9 h10 h11 h12 h13 tA tB kA kB h14 h15 h16 h17 h18 =>
    Any2.slices_Insert_string_shift Tryz.ins284 b off n c i vb voff m vc cs vs w h1 h2 h3 h4 h5 h6 h7 h8 h9 h10 h11 h12 h13 tA tB kA kB h14 h15 h16 h17 h18,
    fun b off n c i vb voff m vc cs vs w h1 h2 h3 h4 h5 h6 h7 h8 h9 h10 h11 => ?_⟩
  refine (Any2.slices_Insert_string_grow Tryz.ins284 b off n c i vb voff m vc cs vs w h1 h2 h3 h4 h5 h6 h7 h8 h9 h10 h11).mono ?_
  rintro x w' ⟨rfl, rfl⟩
  have hge := grownCap_ge w (n + m) c 9
  have hle := grownCap_le_maxLen w (n + m) c 9 (by unfold maxLen; omega)
  refine ⟨_, hge, hle, rfl, _, ?_, rfl, fun j hj => ?_⟩
  · have hz : ∀ k, (Builtin.zeroCells (Value.string ⟨#[]⟩).cells k).size = k := fun k => by simp [Builtin.zeroCells, Value.cells]
    have hge' : n + m ≤ grownCap w (n + m) c (Tryz.ins284_ren.t 9) := hge
    simp only [Array.size_append, hz, List.size_toArray, List.length_take]
    show _ = grownCap w (n + m) c (Tryz.ins284_ren.t 9)
    omega
  · rw [Array.getElem?_append_left (by simp [Array.size_append]; omega), Array.getElem?_append_left (by simp; omega)]
    simp only [List.getElem?_toArray, List.getElem?_take, hj, if_true]
noncomputable def sortedK : Hook := orHook (sortedHook 67 142) (insHook 284 9)
theorem sortedK_ok : HookOk Tryz.prog sortedK := orHook_ok (sortedHook_ok (by kernel_rfl) sortedOk68) (insHook_ok insOk284)
end Go.Proofs.YtakgpgamcmemgaaGreat


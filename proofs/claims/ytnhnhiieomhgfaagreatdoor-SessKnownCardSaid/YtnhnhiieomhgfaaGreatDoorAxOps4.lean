/-
  AX: operations: rows of a given length, places in rows, conversions, append and copy.
-/
import Derived.Test.YtnhnhiieomhgfaaGreatDoorAxOps3
import Derived.Laws.BytesString
import Derived.Laws.Append
namespace Go.AX
open Go.RowKit

theorem wrap_small {n : Int} (h0 : 0 ≤ n) (h1 : n < 9223372036854775808) : IntKind.i64.wrap n = n := by
  rw [← wrapF_eq]
  have e : Int.emod n 18446744073709551616 = n := Int.emod_eq_of_lt h0 (by omega)
  simp only [wrapF, e]
  rw [if_pos h1]

theorem bytesOf_get {s : ByteArray} {i b : Nat} (h : (bytesOf s)[i]? = some b) : ∃ c, s[i]? = some c ∧ c.toNat = b ∧ i < s.size := by
  unfold bytesOf at h
  rw [List.getElem?_map] at h
  cases hc : s.data.toList[i]? with
  | none => rw [hc] at h; cases h
  | some c =>
    rw [hc] at h
    simp only [Option.map_some, Option.some.injEq] at h
    have hi := (List.getElem?_eq_some_iff.1 hc)
    obtain ⟨h1, h2⟩ := hi
    have hsz : i < s.size := by simpa using h1
    refine ⟨c, ?_, h, hsz⟩
    rw [ByteArray.getElem?_lt' s i hsz]
    congr 1

section
variable {P : Program} {N : NN} {φ : Phi} {h h' : H} {w : World}

theorem makeSliceA_rel (hr : HR N φ h w) (hN : N ≤ w.heap.size) {t : TypeId} {x y v : AV} {cx cy : Value} (hm : makeSliceA P t x y h = .val v h') (hx : VR φ x cx) (hy : VR φ y cy) :
    VOk P N φ w (Instr.makeSlice t cx cy) v h' := by
  unfold makeSliceA at hm
  split at hm
  · rename_i elem k1 l k2 c hu
    simp only [VR_int] at hx hy; subst hx; subst hy
    split at hm
    · rename_i info z hi hz hb
      split at hm
      · rename_i hc
        cases hm
        simp only [Bool.and_eq_true] at hb hc
        have b1 : l ≤ c := Nat.le_of_ble_eq_true hb.1
        have b2 : c ≤ 4194304 := Nat.le_of_ble_eq_true hb.2
        have b3 : info.bytes ≤ 4194304 := Nat.le_of_ble_eq_true hc.1.1.2
        have b4 := Nat.eq_of_beq_eq_true hc.1.2
        have b5 : 1 ≤ info.size := Nat.le_of_ble_eq_true hc.2
        have hok := hc.1.1.1
        obtain ⟨cz, h1, h2, h3, _⟩ := zeroA_rel (w := w) (φ := φ) hz
        have hsz : cz.cells.size = info.size := by rw [← b4, h2.cells.length]; simp
        have hce : P.cellsOf elem = info.size := by simp [Program.cellsOf, hi]
        have hnew := newCells_rel hr hN (range_repl h2.cells c) (fun a ha => by
          have : ∀ n, ∀ a, a ∈ repl z.cells n → a.one = true := by
            intro n; induction n with
            | zero => simp [repl]
            | succ n ih => intro a ha; simp only [repl, List.mem_append] at ha; rcases ha with ha | ha
                           · exact h3 a ha
                           · exact ih a ha
          exact this c a ha) elem
        have hmul : info.bytes * c ≤ 4194304 * 4194304 := Nat.mul_le_mul b3 b2
        refine ⟨_, .slice (some ⟨w.heap.size, 0, none⟩) l c, _, ?_, ?_, hnew.2, hnew.1, below_push _ hN⟩
        · have w1 : IntKind.i64.wrap (Int.ofNat l) = (l : Int) := wrap_small (by simp) (by simp; omega)
          have w2 : IntKind.i64.wrap (Int.ofNat c) = (c : Int) := wrap_small (by simp) (by simp; omega)
          have g1 : (decide ((c : Int) < 0) || decide ((info.bytes : Int) * (c : Int) > 2 ^ 48)) = false := by
            simp only [Bool.or_eq_false_iff, decide_eq_false_iff_not]
            refine ⟨by omega, ?_⟩
            have : (info.bytes : Int) * (c : Int) = ((info.bytes * c : Nat) : Int) := by simp
            rw [this]; omega
          have g2 : (decide ((l : Int) < 0)) = false := by simp
          have g3 : (decide ((l : Int) > (c : Int))) = false := by simp; omega
          have hti : (typeInfo elem).run P w = .ok info w := by simp only [typeInfo, Sem.run_bind, run_program, Result.andThen_ok, hi, Sem.run_pure]
          simp only [Instr.makeSlice, Sem.run_bind, run_underlying hu, Result.andThen_ok, asInt, asIntOf, Sem.run_pure, hti, w1, w2, g1, g2, g3, Bool.or_self, Bool.false_eq_true, if_false, run_askRoom,
            sizeOf_run elem hok, Int.toNat_natCast]
          have e : P.cellsOf elem = cz.cells.size := by rw [hce, hsz]
          rw [e]
          by_cases e0 : c * cz.cells.size = 0
          · simp only [e0, if_true, Sem.run_bind, Sem.run_pure, Result.andThen_ok, range_zero, newRow, run_newObj]
          · simp only [e0, if_false, Sem.run_bind, h1, Sem.run_pure, Result.andThen_ok, newRow, run_newObj, Array.toArray_toList]
        · rw [VR_sliceEx]; exact ⟨_, Phi.ins_same _ _ _, by simp⟩
      · cases hm
    · cases hm
  · cases hm

theorem sizeOf_run' {t : TypeId} (ht : P.cellsOf t ≠ 0) : (sizeOf t).run P w = .ok (P.cellsOf t) w := by
  unfold Program.cellsOf at ht ⊢
  cases hi : P.info? t with
  | none => rw [hi] at ht; exact absurd rfl ht
  | some i => simp only [sizeOf, typeInfo, Sem.run_bind, run_program, Result.andThen_ok, hi, Sem.run_pure]; rfl

theorem fieldAddrA_rel {t : TypeId} {x v : AV} {cx : Value} {i : Nat} (hx : VR φ x cx) (hf : fieldAddrA P t x i = some v) : Pu P φ w (Instr.fieldAt t cx i) v := by
  unfold fieldAddrA at hf
  split at hf
  · rename_i fields b o hu
    split at hf
    · rename_i f hfi
      split at hf
      · cases hf
      · rename_i hne
        have hne := Nat.ne_of_beq_eq_false hne
        cases hf
        simp only [VR_ptr] at hx; obtain ⟨L, hL, rfl⟩ := hx
        rw [Array.getElem?_toList] at hfi
        refine ⟨.pointer (some ⟨L.B, L.base + o + f.offset, none⟩), ?_, VR_ptr.2 ⟨L, hL, by rw [Nat.add_assoc]⟩⟩
        simp only [Instr.fieldAt, Sem.run_bind, run_underlying hu, Result.andThen_ok, hfi, Instr.sureAddr, Sem.run_pure, fieldPlace, sizeOf_run' hne, hne, if_false, add_none]
    · cases hf
  · cases hf

theorem fieldA_rel {t : TypeId} {x v : AV} {cx : Value} {i : Nat} (hx : VR φ x cx) (hf : fieldA P t x i = some v) : Pu P φ w (Instr.field t cx i) v := by
  unfold fieldA at hf
  split at hf
  · rename_i fields cs hu
    split at hf
    · rename_i f hfi
      split at hf
      · rename_i hok
        simp only [VR_agg] at hx; obtain ⟨a, rfl, ha⟩ := hx
        rw [Array.getElem?_toList] at hfi
        obtain ⟨cv, h1, h2⟩ := partA_rel (w := w) hok ha hf
        exact ⟨cv, by simp only [Instr.field, Sem.run_bind, run_underlying hu, Result.andThen_ok, hfi, asAgg, Sem.run_pure, h1], h2⟩
      · cases hf
    · cases hf
  · cases hf

theorem indexAddrA_rel {t : TypeId} {x ix v : AV} {cx ci : Value} (hx : VR φ x cx) (hi : VR φ ix ci) (hf : indexAddrA P t x ix = some v) : Pu P φ w (Instr.indexAt t cx ci) v := by
  unfold indexAddrA at hf
  split at hf
  · rename_i k i
    simp only [VR_int] at hi; subst hi
    split at hf
    · rename_i len e b o hu
      split at hf
      · rename_i hc
        simp only [Bool.and_eq_true] at hc
        have hlt : i < len := by have := Nat.le_of_ble_eq_true hc.1; omega
        cases hf
        simp only [VR_ptr] at hx; obtain ⟨L, hL, rfl⟩ := hx
        refine ⟨.pointer (some ⟨L.B, L.base + o + i * P.cellsOf e, none⟩), ?_, VR_ptr.2 ⟨L, hL, by rw [Nat.add_assoc]⟩⟩
        have hb : (0 : Int) ≤ Int.ofNat i ∧ Int.ofNat i < (len : Int) := ⟨by simp, by simp; omega⟩
        simp only [Instr.indexAt, Sem.run_bind, run_underlying hu, Result.andThen_ok, asIntOf, Instr.sureAddr, Sem.run_pure, hb, and_self, if_true, sizeOf_run e hc.2]
        simp only [add_none, Int.ofNat_eq_natCast, Int.toNat_natCast]
      · cases hf
    · rename_i e b o len c hu
      split at hf
      · rename_i hc
        simp only [Bool.and_eq_true] at hc
        have hlt : i < len := by have := Nat.le_of_ble_eq_true hc.1; omega
        cases hf
        have hx' : ∃ L cap, φ b = some L ∧ cx = .slice (some ⟨L.B, L.base + o, none⟩) len cap := by
          cases c with
          | exact c => rw [VR_sliceEx] at hx; obtain ⟨L, hL, e⟩ := hx; exact ⟨L, c, hL, e⟩
          | opn j => rw [VR_sliceOp] at hx; obtain ⟨L, hL, e, _⟩ := hx; exact ⟨L, _, hL, e⟩
        obtain ⟨L, cap, hL, rfl⟩ := hx'
        refine ⟨.pointer (some ⟨L.B, L.base + o + i * P.cellsOf e, none⟩), ?_, VR_ptr.2 ⟨L, hL, by rw [Nat.add_assoc]⟩⟩
        have hb : (0 : Int) ≤ Int.ofNat i ∧ Int.ofNat i < (len : Int) := ⟨by simp, by simp; omega⟩
        simp only [Instr.indexAt, Sem.run_bind, run_underlying hu, Result.andThen_ok, asIntOf, Sem.run_pure, hb, and_self, if_true, sizeOf_run e hc.2]
        simp only [add_none, Int.ofNat_eq_natCast, Int.toNat_natCast]
      · cases hf
    · cases hf
  · cases hf

theorem indexA_rel {t : TypeId} {x ix v : AV} {cx ci : Value} (hx : VR φ x cx) (hi : VR φ ix ci) (hf : indexA P t x ix = some v) : Pu P φ w (Instr.index t cx ci) v := by
  unfold indexA at hf
  split at hf
  · rename_i k i
    simp only [VR_int] at hi; subst hi
    split at hf
    · rename_i len e cs hu
      split at hf
      · rename_i hc
        simp only [Bool.and_eq_true] at hc
        have hlt : i < len := by have := Nat.le_of_ble_eq_true hc.1; omega
        simp only [VR_agg] at hx; obtain ⟨a, rfl, ha⟩ := hx
        obtain ⟨cv, h1, h2⟩ := partA_rel (w := w) hc.2 ha hf
        have hb : (0 : Int) ≤ Int.ofNat i ∧ Int.ofNat i < (len : Int) := ⟨by simp, by simp; omega⟩
        refine ⟨cv, ?_, h2⟩
        simp only [Instr.index, Sem.run_bind, run_underlying hu, Result.andThen_ok, asIntOf, Sem.run_pure, hb, and_self, if_true, sizeOf_run e hc.2]
        simpa using h1
      · cases hf
    · rename_i s hu
      split at hf
      · rename_i b hb
        cases hf
        simp only [VR_str] at hx; obtain ⟨s, rfl, rfl⟩ := hx
        obtain ⟨c, h1, h2, h3⟩ := bytesOf_get hb
        refine ⟨.int .u8 c.toNat, ?_, by rw [VR_int, h2]; rfl⟩
        have hb : (0 : Int) ≤ Int.ofNat i := by simp
        simp only [Instr.index, Sem.run_bind, run_underlying hu, Result.andThen_ok, asIntOf, Sem.run_pure, hb, if_true]
        have : (Int.ofNat i).toNat = i := by simp
        rw [this, h1]
        rfl
      · cases hf
    · cases hf
  · cases hf

/-! ## sources -/

theorem lenOfA_rel {x : AV} {cx : Value} {n : Nat} (hx : VR φ x cx) (hl : lenOfA x = some n) : (Builtin.lenOf cx).run P w = .ok n w := by
  cases x with
  | nilslice => simp at hx; subst hx; simp only [lenOfA, Option.some.injEq] at hl; subst hl; rfl
  | slice0 => simp at hx; obtain ⟨a, c, rfl⟩ := hx; simp only [lenOfA, Option.some.injEq] at hl; subst hl; rfl
  | slice b o len c => obtain ⟨a, cap, rfl⟩ := VR_slice_some hx; simp only [lenOfA, Option.some.injEq] at hl; subst hl; rfl
  | str s =>
    simp only [VR_str] at hx; obtain ⟨b, rfl, rfl⟩ := hx
    simp only [lenOfA, Option.some.injEq] at hl; subst hl
    simp only [Builtin.lenOf, Sem.run_pure]
    congr 1
    simp [bytesOf]
  | _ => simp [lenOfA] at hl

theorem slice_addr {b o len : Nat} {c : Cap} {cx : Value} (hx : VR φ (.slice b o len c) cx) : ∃ L cap, φ b = some L ∧ cx = .slice (some ⟨L.B, L.base + o, none⟩) len cap := by
  cases c with
  | exact c => rw [VR_sliceEx] at hx; obtain ⟨L, hL, e⟩ := hx; exact ⟨L, c, hL, e⟩
  | opn j => rw [VR_sliceOp] at hx; obtain ⟨L, hL, e, _⟩ := hx; exact ⟨L, _, hL, e⟩

theorem srcA_rel (hr : HR N φ h w) {x : AV} {cx : Value} {size n m : Nat} {l : List AV} (hx : VR φ x cx) (hm : lenOfA x = some m) (hnm : n ≤ m) (hl : srcA h size n x = some l) :
    ∃ arr, (Builtin.firstCells size n cx).run P w = .ok arr w ∧ All2 (VR φ) l arr.toList ∧ (∀ a, a ∈ l → a.one = true) := by
  cases x with
  | nilslice => simp at hx; subst hx; simp only [srcA, Option.some.injEq] at hl; subst hl; exact ⟨#[], rfl, trivial, by simp⟩
  | slice0 =>
    simp at hx; obtain ⟨a, c, rfl⟩ := hx; simp only [srcA, Option.some.injEq] at hl; subst hl
    simp only [lenOfA, Option.some.injEq] at hm; subst hm
    have : n = 0 := by omega
    subst this
    exact ⟨#[], by simp [Builtin.firstCells, loadCells, loadCellsFrom], trivial, by simp⟩
  | slice b o len c =>
    obtain ⟨L', cap, hL', rfl⟩ := slice_addr hx
    simp only [srcA] at hl
    obtain ⟨L, cl, hL, h1, h2, h3, h4⟩ := row_rel (P := P) hr hL' hl
    rw [hL'] at hL; cases hL
    exact ⟨cl.toArray, h1, h2, h4⟩
  | str s =>
    simp only [VR_str] at hx; obtain ⟨b, rfl, rfl⟩ := hx
    simp only [srcA, Option.some.injEq] at hl; subst hl
    refine ⟨_, rfl, ?_, ?_⟩
    · rw [Array.toList_map, All2.map_left, All2.map_right]
      have e : (b.extract 0 n).data.toList = b.data.toList.take n := by rw [ByteArray.data_extract, Array.toList_extract]; simp [List.extract]
      rw [e, bytesOf, ← List.map_take, All2.map_left]
      exact All2.same (fun a => by simp) _
    · intro a ha; simp only [List.mem_map] at ha; obtain ⟨_, _, rfl⟩ := ha; rfl
  | _ => simp [srcA] at hl

end
end Go.AX

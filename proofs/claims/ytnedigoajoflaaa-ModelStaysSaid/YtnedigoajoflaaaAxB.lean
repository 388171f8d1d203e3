/-
  AX: operations on values alone: what the evaluator reckons is what the machine reckons.
-/
import Derived.Test.YtnedigoajoflaaaAxA
import Derived.Laws.StructEq
import Derived.Laws.Entries
import Derived.Laws.Strings
import Derived.Laws.BytesString
import Derived.Laws.Append
set_option linter.unusedSimpArgs false
set_option linter.unusedVariables false
namespace Go.AX
theorem forceInt_eq {α : Type} (n : Int) (k : Int → α) : forceInt n k = k n := by
  cases n with
  | ofNat m => cases m <;> rfl
  | negSucc m => cases m <;> rfl
theorem wrap_aux (m c d : Int) : (if m < c then m else m - d) = if m ≥ c then m - d else m := by
  by_cases h : m < c
  · rw [if_pos h, if_neg (by omega)]
  · rw [if_neg h, if_pos (by omega)]
theorem wrapF_eq (k : IntKind) (n : Int) : wrapF k n = k.wrap n := by
  cases k <;> simp only [wrapF, wrap_aux] <;> simp [IntKind.wrap, IntKind.signed, IntKind.bits] <;> rfl
theorem modF_eq (k : IntKind) : modF k = 2 ^ k.bits := by cases k <;> rfl
theorem low_eq (k : IntKind) (n : Int) : low k n = (BitVec.ofInt k.bits n).toNat := by
  rw [low, modF_eq, BitVec.toNat_ofInt]; rfl
theorem eqB_eq {a b : IntKind} (h : IntKind.eqB a b = true) : a = b := by
  cases a <;> cases b <;> first | rfl | (simp [IntKind.eqB] at h)
theorem listEqB_eq : ∀ a b : List Nat, listEqB a b = (a == b)
  | [], [] => rfl
  | a :: x, b :: y => by
    simp only [listEqB, List.cons_beq_cons]
    cases h : Nat.beq a b
    · have := Nat.ne_of_beq_eq_false h; simp [this]
    · have := Nat.eq_of_beq_eq_true h; simp [this, listEqB_eq x y]
  | [], _ :: _ => rfl
  | _ :: _, [] => rfl
theorem bytesOf_eq (s : ByteArray) : bytesOf s = s.toList.map UInt8.toNat := by rw [ByteArray.toList_eq]; rfl
theorem map_toNat_beq : ∀ a b : List UInt8, (a.map UInt8.toNat == b.map UInt8.toNat) = (a == b)
  | [], [] => rfl
  | a :: x, b :: y => by
    simp only [List.map_cons, List.cons_beq_cons, map_toNat_beq x y]
    congr 1
    rw [Bool.eq_iff_iff]; simp [UInt8.toNat_inj]
  | [], _ :: _ => rfl
  | _ :: _, [] => rfl
theorem map_toNat_lt : ∀ a b : List UInt8, listLtB (a.map UInt8.toNat) (b.map UInt8.toNat) = Op.bytesLess a b
  | [], [] => rfl
  | a :: x, b :: y => by
    simp only [List.map_cons, listLtB, Op.bytesLess, map_toNat_lt x y]
    have e1 : Nat.blt a.toNat b.toNat = decide (a < b) := by
      rw [Bool.eq_iff_iff]; simp [Nat.blt, UInt8.lt_iff_toNat_lt]; omega
    have e2 : Nat.beq a.toNat b.toNat = (a == b) := by
      rw [Bool.eq_iff_iff]; simp [UInt8.toNat_inj]
    rw [e1, e2]
    cases decide (a < b) <;> cases (a == b) <;> simp
  | [], _ :: _ => by simp [listLtB, Op.bytesLess]
  | _ :: _, [] => by simp [listLtB, Op.bytesLess]
section
variable {P : Program} {φ : Phi} {w : World}
theorem ofVal1_rel {v : Value} {a : AV} (h : ofVal1 v = some a) : VR φ a v ∧ a.one = true := by
  unfold ofVal1 at h
  split at h <;> simp only [Option.some.injEq, reduceCtorEq] at h <;> subst h <;> simp [AV.one]
theorem ofVals_rel : ∀ {l : List Value} {a : List AV}, ofVals l = some a → All2 (VR φ) a l ∧ ∀ x, x ∈ a → x.one = true
  | [], a, h => by simp only [ofVals, Option.some.injEq] at h; subst h; exact ⟨trivial, by simp⟩
  | v :: l, a, h => by
    simp only [ofVals] at h
    split at h
    · cases h
    · rename_i x hx
      split at h
      · cases h
      · rename_i y hy
        cases h
        have h1 := ofVal1_rel (φ := φ) hx
        have h2 := ofVals_rel hy
        refine ⟨⟨h1.1, h2.1⟩, fun z hz => ?_⟩
        rcases List.mem_cons.1 hz with rfl | hz
        · exact h1.2
        · exact h2.2 z hz
theorem ofVal_rel {v : Value} {a : AV} (h : ofVal v = some a) : VR φ a v := by
  unfold ofVal at h
  split at h
  · split at h
    · rename_i cs l hl; cases h; rw [VR_agg]; exact ⟨_, rfl, (ofVals_rel hl).1⟩
    · cases h
  · split at h
    · rename_i cs hl; cases h
      rw [und, VR_tuple]; exact ⟨_, rfl, by rw [hl]; trivial⟩
    · cases h
  · exact (ofVal1_rel h).1
theorem ofVal_cells {v : Value} {a : AV} (h : ofVal v = some a) : (∀ x, x ∈ a.cells → x.one = true) ∨ a = und := by
  unfold ofVal at h
  split at h
  · split at h
    · rename_i cs l hl; cases h; exact .inl (ofVals_rel (φ := fun _ => none) hl).2
    · cases h
  · split at h
    · cases h; exact .inr rfl
    · cases h
  · have h1 := (ofVal1_rel (φ := fun _ => none) h).2
    left; intro x hx
    have : a.cells = [a] := by cases a <;> simp_all [AV.one, AV.cells]
    rw [this] at hx; simp at hx; subst hx; exact h1
theorem intB_rel {op : BinOp} {k : IntKind} {a b : Int} {t : TypeId} {v : AV} (h : intB op k a b = some v) (hs : op ≠ .shl ∧ op ≠ .shr) :
    ∃ cv, (binOp op t (.int k a) (.int k b)).run P w = .ok cv w ∧ VR φ v cv := by
  cases op <;> simp only [intB, forceInt_eq, wrapF_eq, Option.some.injEq, reduceCtorEq] at h <;> first
    | (exact absurd rfl hs.1)
    | (exact absurd rfl hs.2)
    | (subst h; refine ⟨_, ?_, VR_int.2 rfl⟩; simp [binOp, Op.intArith]; done)
    | (subst h; refine ⟨_, ?_, VR_bool.2 rfl⟩; simp [binOp, Op.intCmp]; done)
    | (subst h; refine ⟨_, ?_, VR_int.2 rfl⟩; simp only [low_eq]; simp [binOp, Op.intBits]; done)
    | (cases hb : (b == 0)
       · simp only [hb, cond_false, Option.some.injEq] at h
         subst h; refine ⟨_, ?_, VR_int.2 rfl⟩
         have hb' : ¬ b = 0 := by simpa using hb
         simp [binOp, Op.intDiv, hb']
       · simp [hb] at h)
    | (subst h; refine ⟨_, ?_, VR_int.2 rfl⟩
       simp only [low_eq, modF_eq]
       simp [binOp, Op.intBits, BitVec.toNat_not])
theorem shiftB_rel {op : BinOp} {k yk : IntKind} {a y : Int} {t : TypeId} {v : AV} (h : shiftB op k a y = some v) (hs : op = .shl ∨ op = .shr) :
    ∃ cv, (binOp op t (.int k a) (.int yk y)).run P w = .ok cv w ∧ VR φ v cv := by
  unfold shiftB at h
  split at h
  · cases h
  · rename_i y
    have hy : ¬ ((y : Int) < 0) := by omega
    rcases hs with rfl | rfl
    · simp only [forceInt_eq, wrapF_eq, Option.some.injEq] at h; subst h
      refine ⟨_, ?_, VR_int.2 rfl⟩
      simp [binOp, Op.shift, hy]
    · simp only [forceInt_eq, Option.some.injEq] at h; subst h
      refine ⟨_, ?_, VR_int.2 rfl⟩
      simp [binOp, Op.shift, hy]
theorem strB_rel {op : BinOp} {a b : ByteArray} {t : TypeId} {v : AV} (h : strB op (bytesOf a) (bytesOf b) = some v) :
    ∃ cv, (binOp op t (.string a) (.string b)).run P w = .ok cv w ∧ VR φ v cv := by
  have eb : listEqB (bytesOf a) (bytesOf b) = (a.toList == b.toList) := by rw [listEqB_eq, bytesOf_eq, bytesOf_eq, map_toNat_beq]
  have lb : listLtB (bytesOf a) (bytesOf b) = Op.bytesLess a.toList b.toList := by rw [bytesOf_eq, bytesOf_eq, map_toNat_lt]
  have ls : ∀ s : ByteArray, lenL (bytesOf s) = s.size := by intro s; simp [bytesOf]
  cases op <;> simp only [strB, eb, lb, ls, Option.some.injEq, reduceCtorEq] at h <;> first
    | (subst h; refine ⟨_, ?_, VR_bool.2 rfl⟩; simp [binOp, Op.stringOp]; done)
    | (split at h
       · rename_i hle
         cases h
         have hle' := Nat.le_of_ble_eq_true hle
         refine ⟨.string (a ++ b), ?_, VR_str.2 ⟨_, rfl, by simp [bytesOf]⟩⟩
         have : ¬ (((a.size + b.size : Nat) : Int) > IntKind.i64.max) := by rw [IntKind.max_i64]; omega
         simp only [binOp, Op.stringOp, this, if_false]; rfl
       · cases h)
theorem aggT_run (t : TypeId) (ht : okT P t = true) : (isAgg t).run P w = .ok (aggT P t) w := by
  unfold okT at ht
  cases h : P.underlying t with
  | none => rw [h] at ht; cases ht
  | some d =>
    simp only [isAgg, Sem.run_bind, run_underlying h, Result.andThen_ok, aggT, h]
    cases d <;> rfl
theorem okT_info {t : TypeId} (ht : okT P t = true) : ∃ i, P.info? t = some i := by
  unfold okT Program.underlying at ht
  cases h : P.info? t with
  | none => rw [h] at ht; cases ht
  | some i => exact ⟨i, rfl⟩
theorem sizeOf_run (t : TypeId) (ht : okT P t = true) : (sizeOf t).run P w = .ok (P.cellsOf t) w := by
  obtain ⟨i, hi⟩ := okT_info ht
  simp only [sizeOf, typeInfo, Sem.run_bind, run_program, Result.andThen_ok, hi, Sem.run_pure, Program.cellsOf]
  rfl
theorem partA_rel {t : TypeId} {cs : List AV} {ccs : Array Value} {off : Nat} {v : AV} (ht : okT P t = true) (hc : All2 (VR φ) cs ccs.toList) (h : partA P t cs off = some v) :
    ∃ cv, (part t ccs off).run P w = .ok cv w ∧ VR φ v cv := by
  unfold partA at h
  split at h
  · rename_i ha
    cases h
    refine ⟨.agg (ccs.extract off (off + P.cellsOf t)), ?_, VR_agg.2 ⟨_, rfl, ?_⟩⟩
    · simp only [part, Sem.run_bind, aggT_run t ht, Result.andThen_ok, ha, if_true, sizeOf_run t ht, Sem.run_pure]
    · rw [Array.toList_extract]
      simpa [List.extract] using (hc.drop off).take (P.cellsOf t)
  · rename_i ha
    obtain ⟨cv, h1, h2⟩ := hc.get h
    refine ⟨cv, ?_, h2⟩
    have h1' : ccs[off]? = some cv := by simpa using h1
    simp only [part, Sem.run_bind, aggT_run t ht, Result.andThen_ok, ha, if_false, Bool.false_eq_true, h1', Sem.run_pure]
theorem eqFields_rel {d D : Nat} (hd : ∀ (t : TypeId) (x y : AV) (cx cy : Value) (r : Bool), eqA P d t x y = some r → VR φ x cx → VR φ y cy → (Op.equalIn D t cx cy).run P w = .ok r w)
    (hok : ∀ (t : TypeId) (x y : AV) (r : Bool), eqA P d t x y = some r → okT P t = true) {xs ys : List AV} {cxs cys : Array Value} (hx : All2 (VR φ) xs cxs.toList) (hy : All2 (VR φ) ys cys.toList) :
    ∀ (fs : List Field) (r : Bool), eqFields P (eqA P d) xs ys fs = some r → (Op.eqFields D cxs cys fs).run P w = .ok r w
  | [], r, h => by simp only [eqFields, Option.some.injEq] at h; subst h; rfl
  | f :: fs, r, h => by
    simp only [eqFields] at h
    split at h
    · cases h
    · rename_i hn
      have hn' : f.name ≠ "_" := by simpa using hn
      split at h
      · rename_i x y px py
        split at h
        · rename_i he
          have ht := hok _ _ _ _ he
          obtain ⟨cx, r1, v1⟩ := partA_rel (w := w) ht hx px
          obtain ⟨cy, r2, v2⟩ := partA_rel (w := w) ht hy py
          have := hd _ _ _ _ _ _ he v1 v2
          simp only [Op.eqFields, ne_eq, hn', not_false_eq_true, if_true, Sem.run_bind, r1, r2, this, Result.andThen_ok, Bool.not_true, Bool.false_eq_true, if_false]
          exact eqFields_rel hd hok hx hy fs r h
        · rename_i he
          cases h
          have ht := hok _ _ _ _ he
          obtain ⟨cx, r1, v1⟩ := partA_rel (w := w) ht hx px
          obtain ⟨cy, r2, v2⟩ := partA_rel (w := w) ht hy py
          have := hd _ _ _ _ _ _ he v1 v2
          simp only [Op.eqFields, ne_eq, hn', not_false_eq_true, if_true, Sem.run_bind, r1, r2, this, Result.andThen_ok, Bool.not_false]
          rfl
        · cases h
      · cases h
theorem eqA_ok {d : Nat} {t : TypeId} {x y : AV} {r : Bool} (h : eqA P d t x y = some r) : okT P t = true := by
  cases d with
  | zero => cases h
  | succ d =>
    unfold okT
    cases hu : P.underlying t with
    | none => simp only [eqA, hu] at h; cases h
    | some _ => rfl
theorem VR_slice_some {b o len : Nat} {c : Cap} {v : Value} (h : VR φ (.slice b o len c) v) : ∃ a cap, v = .slice (some a) len cap := by
  cases c <;> simp at h
  · obtain ⟨L, _, rfl⟩ := h; exact ⟨_, _, rfl⟩
  · obtain ⟨L, _, rfl, _⟩ := h; exact ⟨_, _, rfl⟩
set_option maxHeartbeats 1000000 in
theorem eqA_rel : ∀ (d D : Nat), d ≤ D → ∀ (t : TypeId) (x y : AV) (cx cy : Value) (r : Bool), eqA P d t x y = some r → VR φ x cx → VR φ y cy → (Op.equalIn D t cx cy).run P w = .ok r w
  | 0, _, _, _, _, _, _, _, _, h, _, _ => by cases h
  | d + 1, 0, hD, _, _, _, _, _, _, _, _, _ => by omega
  | d + 1, D + 1, hD, t, x, y, cx, cy, r, h, hx, hy => by
    have ih := eqA_rel d D (by omega)
    simp only [eqA] at h
    split at h
    · rename_i hu
      simp at hx hy h; subst hx; subst hy; subst h
      simp [Op.equalIn, run_underlying hu]
    · rename_i hu
      split at h
      · rename_i hk
        have := eqB_eq hk; subst this
        simp at hx hy h; subst hx; subst hy; subst h
        simp [Op.equalIn, run_underlying hu]
      · cases h
    · rename_i hu
      simp only [VR_str] at hx hy; obtain ⟨a, rfl, rfl⟩ := hx; obtain ⟨b, rfl, rfl⟩ := hy
      simp only [Option.some.injEq] at h; subst h
      rw [run_equalIn_string _ _ _ _ _ hu, listEqB_eq, bytesOf_eq, bytesOf_eq, map_toNat_beq]
    · rename_i hu
      simp at hx hy h; subst hx; subst hy; subst h; simp [Op.equalIn, run_underlying hu]
    · rename_i e b o c p hu
      simp only [VR_ptr] at hx hy; obtain ⟨L, hL, rfl⟩ := hx; obtain ⟨M, hM, rfl⟩ := hy
      split at h
      · rename_i h1 h2
        have h1 := Nat.eq_of_beq_eq_true h1
        have h2 := Nat.eq_of_beq_eq_true h2
        subst h1; subst h2
        rw [hL] at hM; cases hM
        split at h
        · rename_i hok
          simp only [Option.some.injEq] at h; subst h
          simp [Op.equalIn, run_underlying hu, sizeOf_run e hok, sameAddr]
        · cases h
      · rename_i h1 h2
        have h1 := Nat.eq_of_beq_eq_true h1
        have h2 := Nat.ne_of_beq_eq_false h2
        subst h1
        rw [hL] at hM; cases hM
        split at h
        · rename_i hok
          simp only [Bool.and_eq_true] at hok
          have hs := Nat.le_of_ble_eq_true hok.2
          have hs' : P.cellsOf e ≠ 0 := by omega
          simp only [Option.some.injEq] at h; subst h
          simp [Op.equalIn, run_underlying hu, sizeOf_run e hok.1, sameAddr, hs', h2]
        · cases h
      · cases h
    · rename_i hu
      simp at hx hy h; obtain ⟨L, _, rfl⟩ := hy; subst hx; subst h; simp [Op.equalIn, run_underlying hu]
    · rename_i hu
      simp at hx hy h; obtain ⟨L, _, rfl⟩ := hx; subst hy; subst h; simp [Op.equalIn, run_underlying hu]
    · rename_i hu
      simp at hx hy h; subst hx; subst hy; subst h; simp [Op.equalIn, run_underlying hu]
    · rename_i hu
      simp at hx hy h; obtain ⟨L, rfl, _⟩ := hy; subst hx; subst h; simp [Op.equalIn, run_underlying hu]
    · rename_i hu
      simp at hx hy h; obtain ⟨L, rfl, _⟩ := hx; subst hy; subst h; simp [Op.equalIn, run_underlying hu]
    · rename_i ms tx ax ty ay hu
      simp only [VR_iface] at hx hy; obtain ⟨vx, rfl, hvx⟩ := hx; obtain ⟨vy, rfl, hvy⟩ := hy
      cases ht : Nat.beq tx ty
      · simp only [ht, Option.some.injEq] at h; subst h
        have hne := Nat.ne_of_beq_eq_false ht
        simp [Op.equalIn, run_underlying hu, hne]
      · have he := Nat.eq_of_beq_eq_true ht
        simp only [ht] at h; subst he
        split at h
        · rename_i i hi
          split at h
          · rename_i hc
            simp [Op.equalIn, run_underlying hu, typeInfo, hi, hc]
            exact ih _ _ _ _ _ _ h hvx hvy
          · cases h
        · cases h
    · rename_i hu
      simp only [VR_agg] at hx hy; obtain ⟨a, rfl, ha⟩ := hx; obtain ⟨b, rfl, hb⟩ := hy
      split at h
      · cases h
      · rename_i hs
        have hf : P.underlying t = some (.struct (P.fieldsOf t)) := by rw [Program.fieldsOf, hu]
        rw [run_equalIn_struct _ _ _ _ _ hf hs]
        have e : ∀ F, P.underlying t = some (.struct F) → P.fieldsOf t = F := fun F hF => by unfold Program.fieldsOf; rw [hF]
        rw [e _ hu]
        exact eqFields_rel ih (fun _ _ _ _ => eqA_ok) ha hb _ _ h
    · rename_i hu
      simp at hx hy h; subst hx; subst hy; subst h; simp [Op.equalIn, run_underlying hu]
    · rename_i hu
      obtain ⟨a, c, rfl⟩ := VR_slice_some hy
      simp at hx h; subst hx; subst h; simp [Op.equalIn, run_underlying hu]
    · rename_i hu
      obtain ⟨a, c, rfl⟩ := VR_slice_some hx
      simp at hy h; subst hy; subst h; simp [Op.equalIn, run_underlying hu]
    · rename_i hu
      simp at hx hy h; obtain ⟨a, c, rfl⟩ := hy; subst hx; subst h; simp [Op.equalIn, run_underlying hu]
    · rename_i hu
      simp at hx hy h; obtain ⟨a, c, rfl⟩ := hx; subst hy; subst h; simp [Op.equalIn, run_underlying hu]
    · rename_i hu
      simp at hx hy h; subst hx; subst hy; subst h; simp [Op.equalIn, run_underlying hu]
    · rename_i hu
      simp at hx hy h; obtain ⟨a, _, rfl⟩ := hy; subst hx; subst h; simp [Op.equalIn, run_underlying hu]
    · rename_i hu
      simp at hx hy h; obtain ⟨a, _, rfl⟩ := hx; subst hy; subst h; simp [Op.equalIn, run_underlying hu]
    · rename_i hu
      simp at hx hy h; subst hx; subst hy; subst h; simp [Op.equalIn, run_underlying hu]
    · rename_i hu
      simp at hx hy h; obtain ⟨a, b, rfl, _⟩ := hy; subst hx; subst h; simp [Op.equalIn, run_underlying hu]
    · rename_i hu
      simp at hx hy h; obtain ⟨a, b, rfl, _⟩ := hx; subst hy; subst h; simp [Op.equalIn, run_underlying hu]
    · cases h
end
end Go.AX

namespace Go.AX
open Go.RowKit
section
variable {P : Program} {N : NN} {φ : Phi} {h : H} {w : World}
theorem VR_int_inv {a : AV} {k : IntKind} {n : Int} (h : VR φ a (.int k n)) : a = .int k n := by
  cases a with
  | slice b o len c => obtain ⟨a, c, e⟩ := VR_slice_some h; cases e
  | int k' n' => simp at h; obtain ⟨rfl, rfl⟩ := h; rfl
  | _ => simp at h
theorem VR_string_inv {a : AV} {s : ByteArray} (h : VR φ a (.string s)) : a = .str (bytesOf s) := by
  cases a with
  | slice b o len c => obtain ⟨a, c, e⟩ := VR_slice_some h; cases e
  | str l => simp at h; rw [h]
  | _ => simp at h
theorem VR_float_inv {a : AV} {k : FloatKind} {n : Nat} (h : VR φ a (.float k n)) : False := by
  cases a with
  | slice b o len c => obtain ⟨a, c, e⟩ := VR_slice_some h; cases e
  | _ => simp at h
theorem VR_complex_inv {a : AV} {k : FloatKind} {n m : Nat} (h : VR φ a (.complex k n m)) : False := by
  cases a with
  | slice b o len c => obtain ⟨a, c, e⟩ := VR_slice_some h; cases e
  | _ => simp at h
theorem VR_nilIface_inv {a : AV} (h : VR φ a .nilIface) : a = .nilIface := by
  cases a with
  | slice b o len c => obtain ⟨a, c, e⟩ := VR_slice_some h; cases e
  | nilIface => rfl
  | _ => simp at h
theorem VR_agg_inv {a : AV} {c : Array Value} (h : VR φ a (.agg c)) : ∃ l, a = .agg l := by
  cases a with
  | slice b o len c => obtain ⟨a, c, e⟩ := VR_slice_some h; cases e
  | agg l => exact ⟨l, rfl⟩
  | _ => simp at h
theorem binOp_eql_any (t : TypeId) (x y : Value) (h1 : ¬ ∃ k a k' b, x = .int k a ∧ y = .int k' b) (h2 : ¬ ∃ a b, x = .string a ∧ y = .string b)
    (h3 : ¬ ∃ k a, x = .float k a) (h4 : ¬ ∃ k a b, x = .complex k a b) :
    binOp .eql t x y = (do pure (.bool (← Op.equal t x y))) ∧ binOp .neq t x y = (do pure (.bool (!(← Op.equal t x y)))) := by
  cases x <;> cases y <;> first
    | exact ⟨rfl, rfl⟩
    | exact absurd ⟨_, _, _, _, rfl, rfl⟩ h1
    | exact absurd ⟨_, _, rfl, rfl⟩ h2
    | exact absurd ⟨_, _, rfl⟩ h3
    | exact absurd ⟨_, _, _, rfl⟩ h4
theorem guardEq_run {op : BinOp} {t : TypeId} {x y : Operand} {a b : AV} {ca cb : Value} (h : guardEq P t x y a b = true) (ha : VR φ a ca) (hb : VR φ b cb) :
    (eqGuard op t x y ca cb).run P w = .ok () w := by
  by_cases h1 : ca = .nilIface ∧ cb = .nilIface
  · obtain ⟨rfl, rfl⟩ := h1
    have := VR_nilIface_inv ha; subst this
    have := VR_nilIface_inv hb; subst this
    simp only [guardEq, Bool.or_eq_true] at h
    rcases h with h | h
    · cases x <;> simp [isConstB] at h
      rw [eqGuard_nil_constL]; rfl
    · cases y <;> simp [isConstB] at h
      rw [eqGuard_nil_constR]; rfl
  · by_cases h2 : ∃ u v, ca = .agg u ∧ cb = .agg v
    · obtain ⟨u, v, rfl, rfl⟩ := h2
      obtain ⟨l, rfl⟩ := VR_agg_inv ha
      obtain ⟨l', rfl⟩ := VR_agg_inv hb
      simp only [guardEq, Bool.not_eq_true'] at h
      exact run_eqGuard_agg w op t x y u v h
    · have : eqGuard op t x y ca cb = pure () := by
        cases ca <;> cases cb <;> first
          | (cases op <;> rfl)
          | exact absurd ⟨rfl, rfl⟩ h1
          | exact absurd ⟨_, _, rfl, rfl⟩ h2
      rw [this]; rfl
def Pu (P : Program) (φ : Phi) (w : World) (m : Sem Value) (v : AV) : Prop := ∃ cv, m.run P w = .ok cv w ∧ VR φ v cv
theorem binA_rel {op : BinOp} {t : TypeId} {x y : Operand} {a b v : AV} {ca cb : Value} (h : binA P op t x y a b = some v) (ha : VR φ a ca) (hb : VR φ b cb) :
    Pu P φ w (do eqGuard op t x y ca cb; binOp op t ca cb) v := by
  unfold binA at h
  split at h
  · rename_i k m k' n
    simp only [VR_int] at ha hb; subst ha; subst hb
    have hg : ∀ op, eqGuard op t x y (.int k m) (.int k' n) = pure () := fun op => eqGuard_at_int ..
    split at h
    · obtain ⟨cv, h1, h2⟩ := shiftB_rel (φ := φ) (P := P) (w := w) (t := t) (yk := k') h (.inl rfl)
      exact ⟨cv, by simp only [Sem.run_bind, hg, Sem.run_pure, Result.andThen_ok, h1], h2⟩
    · obtain ⟨cv, h1, h2⟩ := shiftB_rel (φ := φ) (P := P) (w := w) (t := t) (yk := k') h (.inr rfl)
      exact ⟨cv, by simp only [Sem.run_bind, hg, Sem.run_pure, Result.andThen_ok, h1], h2⟩
    · rename_i n1 n2
      split at h
      · rename_i hk
        have := eqB_eq hk; subst this
        obtain ⟨cv, h1, h2⟩ := intB_rel (φ := φ) (P := P) (w := w) (t := t) h ⟨n1, n2⟩
        exact ⟨cv, by simp only [Sem.run_bind, hg, Sem.run_pure, Result.andThen_ok, h1], h2⟩
      · cases h
  · rename_i s u
    simp only [VR_str] at ha hb; obtain ⟨ca, rfl, rfl⟩ := ha; obtain ⟨cb, rfl, rfl⟩ := hb
    obtain ⟨cv, h1, h2⟩ := strB_rel (φ := φ) (P := P) (w := w) (t := t) h
    exact ⟨cv, by simp only [Sem.run_bind, eqGuard_at_string, Sem.run_pure, Result.andThen_ok, h1], h2⟩
  · rename_i n1 n2
    have q1 : ¬ ∃ k a k' b, ca = .int k a ∧ cb = .int k' b := fun ⟨k, a', k', b', e1, e2⟩ => by
      subst e1; subst e2; exact n1 _ _ _ _ (VR_int_inv ha) (VR_int_inv hb)
    have q2 : ¬ ∃ a b, ca = .string a ∧ cb = .string b := fun ⟨a', b', e1, e2⟩ => by
      subst e1; subst e2; exact n2 _ _ (VR_string_inv ha) (VR_string_inv hb)
    have q3 : ¬ ∃ k a, ca = .float k a := fun ⟨k, a', e1⟩ => by subst e1; exact VR_float_inv ha
    have q4 : ¬ ∃ k a b, ca = .complex k a b := fun ⟨k, a', b', e1⟩ => by subst e1; exact VR_complex_inv ha
    obtain ⟨e1, e2⟩ := binOp_eql_any t ca cb q1 q2 q3 q4
    split at h
    · split at h
      · rename_i hg
        split at h
        · rename_i r he
          cases h
          have := eqA_rel (φ := φ) (w := w) 12 10000 (by omega) t a b ca cb r he ha hb
          refine ⟨.bool r, ?_, VR_bool.2 rfl⟩
          have this' : (Op.equal t ca cb).run P w = .ok r w := this
          simp only [Sem.run_bind, guardEq_run hg ha hb, Result.andThen_ok, e1, this', Sem.run_pure]
        · cases h
      · cases h
    · split at h
      · rename_i hg
        split at h
        · rename_i r he
          cases h
          have := eqA_rel (φ := φ) (w := w) 12 10000 (by omega) t a b ca cb r he ha hb
          refine ⟨.bool !r, ?_, VR_bool.2 rfl⟩
          have this' : (Op.equal t ca cb).run P w = .ok r w := this
          simp only [Sem.run_bind, guardEq_run hg ha hb, Result.andThen_ok, e2, this', Sem.run_pure]
        · cases h
      · cases h
    · cases h
theorem unA_rel {op : UnOp} {x v : AV} {cx : Value} (h : unA op x = some v) (hx : VR φ x cx) : Pu P φ w (Op.unary op cx) v := by
  unfold unA at h
  split at h
  · simp only [VR_int] at hx; subst hx
    simp only [forceInt_eq, wrapF_eq, Option.some.injEq] at h; subst h
    exact ⟨_, rfl, VR_int.2 rfl⟩
  · rename_i k n
    simp only [VR_int] at hx; subst hx
    obtain ⟨cv, h1, h2⟩ := intB_rel (φ := φ) (P := P) (w := w) (t := 0) h ⟨by simp, by simp⟩
    refine ⟨cv, ?_, h2⟩
    rw [← h1]
    have : allBits k = (if k.signed then -1 else k.max) := by cases k <;> rfl
    simp [Op.unary, binOp, this]
  · simp only [VR_bool] at hx; subst hx
    simp only [Option.some.injEq] at h; subst h
    exact ⟨_, rfl, VR_bool.2 rfl⟩
  · cases h
def OptR (φ : Phi) : Option AV → Option Value → Prop
  | none, v => v = none
  | some a, v => ∃ c, v = some c ∧ VR φ a c
theorem bnd_rel {x : AV} {cx : Value} {hi i : Nat} (h : bnd x hi = some i) (hx : VR φ x cx) (hi' : Nat) (hle : hi ≤ hi') (code : BoundsCode) :
    (Instr.sliceBound cx hi' code).run P w = .ok i w ∧ i ≤ hi := by
  unfold bnd at h
  split at h
  · rename_i k n
    split at h
    · rename_i hb
      cases h
      have hb' := Nat.le_of_ble_eq_true hb
      simp only [VR_int] at hx; subst hx
      refine ⟨?_, hb'⟩
      have e : (0 : Int) ≤ Int.ofNat i ∧ Int.ofNat i ≤ (hi' : Int) := by constructor <;> simp <;> omega
      simp only [Instr.sliceBound, asIntOf, Sem.run_bind, Sem.run_pure, Result.andThen_ok]
      rw [if_pos e]; rfl
    · cases h
  · cases h
theorem bndO_rel {x : Option AV} {cx : Option Value} {hi d i : Nat} (h : bndO x hi d = some i) (hx : OptR φ x cx) (hi' d' : Nat) (hle : hi ≤ hi') (hd : x = none → d' = d) (code : BoundsCode) :
    ((match cx with | some v => Instr.sliceBound v hi' code | none => pure d') : Sem Nat).run P w = .ok i w ∧ (x = none ∨ i ≤ hi) := by
  cases x with
  | none =>
    simp only [OptR] at hx; subst hx
    simp only [bndO, Option.some.injEq] at h; subst h
    exact ⟨by rw [hd rfl]; rfl, .inl rfl⟩
  | some x =>
    obtain ⟨c, rfl, hc⟩ := hx
    have := bnd_rel (P := P) (w := w) h hc hi' hle code
    exact ⟨this.1, .inr this.2⟩
theorem sliceBounds_rel {isS : Bool} {lo hi mx : Option AV} {clo chi cmx : Option Value} {len C m hh l : Nat} (hlo : OptR φ lo clo) (hhi : OptR φ hi chi) (hmx : OptR φ mx cmx)
    (h0 : (mx.isSome && hi.isNone) = false) (h1 : mx = none ∧ C = m ∨ ∃ v, mx = some v ∧ ∃ b, b ≤ C ∧ bnd v b = some m)
    (h2 : hi = none ∧ hh = len ∨ ∃ v, hi = some v ∧ ∃ b, b ≤ m ∧ bnd v b = some hh) (h3 : bndO lo hh 0 = some l) :
    (Instr.sliceBounds isS len C clo chi cmx).run P w = .ok (l, hh, m) w := by
  have e3 : ∀ (code : BoundsCode), ((match clo with | some v => Instr.sliceBound v hh code | none => pure 0) : Sem Nat).run P w = .ok l w := fun code =>
    (bndO_rel (P := P) (w := w) h3 hlo hh 0 (Nat.le_refl _) (fun _ => rfl) code).1
  rcases h1 with ⟨rfl, rfl⟩ | ⟨v, rfl, b, hb, hv⟩
  · simp only [OptR] at hmx; subst hmx
    rcases h2 with ⟨rfl, rfl⟩ | ⟨v, rfl, b, hb, hv⟩
    · simp only [OptR] at hhi; subst hhi
      cases lo with
      | none =>
        simp only [OptR] at hlo; subst hlo
        simp only [bndO, Option.some.injEq] at h3; subst h3
        rfl
      | some x =>
        obtain ⟨c, rfl, hc⟩ := hlo
        have := (bnd_rel (P := P) (w := w) h3 hc hh (Nat.le_refl _) .sliceB).1
        simp [Instr.sliceBounds, this]
    · obtain ⟨c, rfl, hc⟩ := hhi
      have q := fun code => (bnd_rel (P := P) (w := w) hv hc C hb code).1
      cases lo with
      | none =>
        simp only [OptR] at hlo; subst hlo
        simp only [bndO, Option.some.injEq] at h3; subst h3
        simp [Instr.sliceBounds, q]
      | some x =>
        obtain ⟨c', rfl, hc'⟩ := hlo
        have := (bnd_rel (P := P) (w := w) h3 hc' hh (Nat.le_refl _) .sliceB).1
        simp [Instr.sliceBounds, this, q]
  · obtain ⟨c, rfl, hc⟩ := hmx
    have q1 := fun code => (bnd_rel (P := P) (w := w) hv hc C hb code).1
    rcases h2 with ⟨rfl, rfl⟩ | ⟨v', rfl, b', hb', hv'⟩
    · simp at h0
    · obtain ⟨c', rfl, hc'⟩ := hhi
      have q2 := fun code => (bnd_rel (P := P) (w := w) hv' hc' m hb' code).1
      cases lo with
      | none =>
        simp only [OptR] at hlo; subst hlo
        simp only [bndO, Option.some.injEq] at h3; subst h3
        simp [Instr.sliceBounds, q1, q2]
      | some x =>
        obtain ⟨c3, rfl, hc3⟩ := hlo
        have := (bnd_rel (P := P) (w := w) h3 hc3 hh (Nat.le_refl _) .slice3C).1
        simp [Instr.sliceBounds, this, q1, q2]
theorem bndO_case {x : Option AV} {b d i : Nat} (h : bndO x b d = some i) : x = none ∧ i = d ∨ ∃ v, x = some v ∧ bnd v b = some i := by
  cases x with
  | none => simp only [bndO, Option.some.injEq] at h; exact .inl ⟨rfl, h.symm⟩
  | some v => exact .inr ⟨v, rfl, h⟩
theorem bnd_le {v : AV} {b i : Nat} (h : bnd v b = some i) : i ≤ b := by
  unfold bnd at h
  split at h
  · split at h
    · rename_i hb; cases h; exact Nat.le_of_ble_eq_true hb
    · cases h
  · cases h
theorem sliceStr_rel {s : ByteArray} {lo hi : Option AV} {clo chi : Option Value} {v : AV} (h : sliceStr (bytesOf s) lo hi = some v) (hlo : OptR φ lo clo) (hhi : OptR φ hi chi) :
    ∃ cv, ((do let (l, h, _) ← Instr.sliceBounds false s.size s.size clo chi none; pure (.string (s.extract l h))) : Sem Value).run P w = .ok cv w ∧ VR φ v cv := by
  have ls : (bytesOf s).length = s.size := by simp [bytesOf]
  unfold sliceStr at h
  rw [lenL_eq, ls] at h
  split at h
  · cases h
  · rename_i hh h1
    split at h
    · cases h
    · rename_i l h2
      cases h
      have := sliceBounds_rel (P := P) (w := w) (φ := φ) (isS := false) (len := s.size) (C := s.size) (m := s.size) (mx := none) (cmx := none) hlo hhi rfl (by simp) (.inl ⟨rfl, rfl⟩)
        (by rcases bndO_case h1 with ⟨a, b⟩ | ⟨v, a, b⟩
            · exact .inl ⟨a, b⟩
            · exact .inr ⟨v, a, _, Nat.le_refl _, b⟩) h2
      refine ⟨.string (s.extract l hh), ?_, VR_str.2 ⟨_, rfl, ?_⟩⟩
      · simp only [Sem.run_bind, this, Result.andThen_ok, Sem.run_pure]
      · simp [bytesOf, List.map_drop, List.map_take, List.take_drop]
        have hl : l ≤ hh := by
          rcases bndO_case h2 with ⟨_, b⟩ | ⟨v, _, b⟩
          · omega
          · exact bnd_le b
        rw [show l + (hh - l) = hh by omega]
theorem sliceEx_rel {isS : Bool} {b o len c size : Nat} {lo hi mx : Option AV} {clo chi cmx : Option Value} {v : AV} {L : Loc} (hL : φ b = some L)
    (h : sliceEx b o len c size lo hi mx = some v) (hlo : OptR φ lo clo) (hhi : OptR φ hi chi) (hmx : OptR φ mx cmx) :
    ∃ l hh m, (Instr.sliceBounds isS len c clo chi cmx).run P w = .ok (l, hh, m) w ∧
      VR φ v (.slice (some (if m = l then ⟨L.B, L.base + o, none⟩ else (⟨L.B, L.base + o, none⟩ : Addr).add (l * size))) (hh - l) (m - l)) := by
  unfold sliceEx at h
  split at h
  · cases h
  · rename_i h0
    split at h
    · cases h
    · rename_i m h1
      split at h
      · cases h
      · rename_i hh h2
        split at h
        · cases h
        · rename_i l h3
          have := sliceBounds_rel (P := P) (w := w) (φ := φ) (isS := isS) (len := len) (C := c) (m := m) hlo hhi hmx h0
            (by rcases bndO_case h1 with ⟨a, e⟩ | ⟨v, a, e⟩
                · exact .inl ⟨a, e.symm⟩
                · exact .inr ⟨v, a, _, Nat.le_refl _, e⟩)
            (by rcases bndO_case h2 with ⟨a, e⟩ | ⟨v, a, e⟩
                · exact .inl ⟨a, e⟩
                · exact .inr ⟨v, a, _, Nat.le_refl _, e⟩) h3
          refine ⟨l, hh, m, this, ?_⟩
          split at h
          · rename_i e
            have e := Nat.eq_of_beq_eq_true e
            cases h
            rw [VR_sliceEx, if_pos e]
            exact ⟨L, hL, rfl⟩
          · rename_i e
            have e := Nat.ne_of_beq_eq_false e
            cases h
            rw [VR_sliceEx, if_neg e, add_none]
            exact ⟨L, hL, by rw [Nat.add_assoc]⟩
theorem sliceOp_rel {isS : Bool} {b o len i size : Nat} {lo hi mx : Option AV} {clo chi cmx : Option Value} {v : AV} {L : Loc} (hL : φ b = some L)
    (h : sliceOp b o len i size lo hi mx = some v) (hlo : OptR φ lo clo) (hhi : OptR φ hi chi) (hmx : OptR φ mx cmx) (hlen : i + len ≤ L.K) :
    ∃ l hh m, (Instr.sliceBounds isS len (L.K - i) clo chi cmx).run P w = .ok (l, hh, m) w ∧
      VR φ v (.slice (some (if m = l then ⟨L.B, L.base + o, none⟩ else (⟨L.B, L.base + o, none⟩ : Addr).add (l * size))) (hh - l) (m - l)) := by
  unfold sliceOp at h
  split at h
  · rename_i mxv
    split at h
    · rename_i m hiv h1
      split at h
      · cases h
      · rename_i hh h2
        split at h
        · cases h
        · rename_i l h3
          have := sliceBounds_rel (P := P) (w := w) (φ := φ) (isS := isS) (len := len) (C := L.K - i) (m := m) hlo hhi hmx rfl
            (.inr ⟨mxv, rfl, len, by omega, h1⟩) (.inr ⟨hiv, rfl, m, Nat.le_refl _, h2⟩) h3
          refine ⟨l, hh, m, this, ?_⟩
          split at h
          · rename_i e
            have e := Nat.eq_of_beq_eq_true e
            cases h
            rw [VR_sliceEx, if_pos e]
            exact ⟨L, hL, rfl⟩
          · rename_i e
            have e := Nat.ne_of_beq_eq_false e
            cases h
            rw [VR_sliceEx, if_neg e, add_none]
            exact ⟨L, hL, by rw [Nat.add_assoc]⟩
    · cases h
  · split at h
    · cases h
    · rename_i hh h2
      split at h
      · cases h
      · rename_i l h3
        have hle : hh ≤ len := by
          rcases bndO_case h2 with ⟨_, e⟩ | ⟨v, _, e⟩
          · omega
          · exact bnd_le e
        have hl : l ≤ hh := by
          rcases bndO_case h3 with ⟨_, e⟩ | ⟨v, _, e⟩
          · omega
          · exact bnd_le e
        have := sliceBounds_rel (P := P) (w := w) (φ := φ) (isS := isS) (len := len) (C := L.K - i) (m := L.K - i) hlo hhi hmx rfl
          (.inl ⟨rfl, rfl⟩) (by rcases bndO_case h2 with ⟨a, e⟩ | ⟨v, a, e⟩
                                · exact .inl ⟨a, e⟩
                                · exact .inr ⟨v, a, len, by omega, e⟩) h3
        refine ⟨l, hh, L.K - i, this, ?_⟩
        split at h
        · rename_i e
          have e := Nat.eq_of_beq_eq_true e
          cases h
          subst e
          rw [VR_sliceOp]
          refine ⟨L, hL, ?_, by omega⟩
          split <;> simp
        · rename_i e
          have e := Nat.ne_of_beq_eq_false e
          split at h
          · rename_i e2
            have e2 := Nat.le_of_ble_eq_true e2
            cases h
            rw [VR_sliceOp, if_neg (by omega), add_none]
            exact ⟨L, hL, by rw [Nat.add_assoc, Nat.sub_sub], by omega⟩
          · rename_i e2
            have e2 : ¬ (l + 1 ≤ len) := fun x => by rw [Nat.ble_eq_true_of_le x] at e2; cases e2
            cases h
            rw [VR_slice0, show hh - l = 0 by omega]
            exact ⟨_, _, rfl⟩
theorem sliceA_rel {t : TypeId} {x : AV} {lo hi mx : Option AV} {cx : Value} {clo chi cmx : Option Value} {v : AV} (hx : VR φ x cx)
    (h : sliceA P t x lo hi mx = some v) (hlo : OptR φ lo clo) (hhi : OptR φ hi chi) (hmx : OptR φ mx cmx) :
    Pu P φ w (Instr.sliceAt t cx clo chi cmx) v := by
  unfold sliceA at h
  split at h
  · rename_i hu
    split at h
    · simp only [OptR] at hmx; subst hmx
      simp only [VR_str] at hx; obtain ⟨s, rfl, rfl⟩ := hx
      obtain ⟨cv, h1, h2⟩ := sliceStr_rel (P := P) (w := w) h hlo hhi
      refine ⟨cv, ?_, h2⟩
      simp only [Instr.sliceAt, Sem.run_bind, run_underlying hu, Result.andThen_ok, Instr.slice, Option.isSome_none, Bool.false_eq_true, if_false]
      simpa only [Sem.run_bind] using h1
    · cases h
  · rename_i e hu
    split at h
    · rename_i ht hv
      cases h
      simp only [VR_nilslice] at hx; subst hx
      unfold sliceEx at hv
      split at hv
      · cases hv
      · rename_i h0
        split at hv
        · cases hv
        · rename_i m h1
          split at hv
          · cases hv
          · rename_i hh h2
            split at hv
            · cases hv
            · rename_i l h3
              have m0 : m = 0 := by
                rcases bndO_case h1 with ⟨_, e⟩ | ⟨v, _, e⟩
                · exact e
                · have := bnd_le e; omega
              subst m0
              have h0' : hh = 0 := by
                rcases bndO_case h2 with ⟨_, e⟩ | ⟨v, _, e⟩
                · exact e
                · have := bnd_le e; omega
              subst h0'
              have l0 : l = 0 := by
                rcases bndO_case h3 with ⟨_, e⟩ | ⟨v, _, e⟩
                · exact e
                · have := bnd_le e; omega
              subst l0
              have := sliceBounds_rel (P := P) (w := w) (φ := φ) (isS := true) (len := 0) (C := 0) (m := 0) hlo hhi hmx h0
                (by rcases bndO_case h1 with ⟨a, e⟩ | ⟨v, a, e⟩
                    · exact .inl ⟨a, rfl⟩
                    · exact .inr ⟨v, a, _, Nat.le_refl _, e⟩)
                (by rcases bndO_case h2 with ⟨a, e⟩ | ⟨v, a, e⟩
                    · exact .inl ⟨a, rfl⟩
                    · exact .inr ⟨v, a, _, Nat.le_refl _, e⟩) h3
              refine ⟨.slice none 0 0, ?_, VR_nilslice.2 rfl⟩
              simp only [Instr.sliceAt, Sem.run_bind, run_underlying hu, Result.andThen_ok, Instr.slice, this, sizeOf_run e ht, Sem.run_pure, if_true]
    · cases h
  · rename_i e hu
    split at h
    · rename_i hh l ht h2 h3
      cases h
      simp only [OptR] at hmx; subst hmx
      simp only [VR_slice0] at hx; obtain ⟨a, c, rfl⟩ := hx
      have h0' : hh = 0 := by
        rcases bndO_case h2 with ⟨_, e⟩ | ⟨v, _, e⟩
        · exact e
        · have := bnd_le e; omega
      subst h0'
      have l0 : l = 0 := by
        rcases bndO_case h3 with ⟨_, e⟩ | ⟨v, _, e⟩
        · exact e
        · have := bnd_le e; omega
      subst l0
      have := sliceBounds_rel (P := P) (w := w) (φ := φ) (isS := true) (len := 0) (C := c) (m := c) (mx := none) (cmx := none) hlo hhi rfl (by simp)
        (.inl ⟨rfl, rfl⟩)
        (by rcases bndO_case h2 with ⟨a, e⟩ | ⟨v, a, e⟩
            · exact .inl ⟨a, rfl⟩
            · exact .inr ⟨v, a, 0, Nat.zero_le _, e⟩) h3
      refine ⟨.slice (some a) 0 c, ?_, VR_slice0.2 ⟨_, _, rfl⟩⟩
      simp only [Instr.sliceAt, Sem.run_bind, run_underlying hu, Result.andThen_ok, Instr.slice, this, sizeOf_run e ht, Sem.run_pure]
      simp [Addr.add]
    · cases h
  · rename_i e b o len c hu
    split at h
    · rename_i ht
      simp only [VR_sliceEx] at hx; obtain ⟨L, hL, rfl⟩ := hx
      obtain ⟨l, hh, m, h1, h2⟩ := sliceEx_rel (P := P) (w := w) (isS := true) hL h hlo hhi hmx
      refine ⟨_, ?_, h2⟩
      simp only [Instr.sliceAt, Sem.run_bind, run_underlying hu, Result.andThen_ok, Instr.slice, h1, sizeOf_run e ht, Sem.run_pure, Option.map_some]
      congr 2
      split <;> rfl
    · cases h
  · rename_i e b o len i hu
    split at h
    · rename_i ht
      simp only [VR_sliceOp] at hx; obtain ⟨L, hL, rfl, hK⟩ := hx
      obtain ⟨l, hh, m, h1, h2⟩ := sliceOp_rel (P := P) (w := w) (isS := true) hL h hlo hhi hmx hK
      refine ⟨_, ?_, h2⟩
      simp only [Instr.sliceAt, Sem.run_bind, run_underlying hu, Result.andThen_ok, Instr.slice, h1, sizeOf_run e ht, Sem.run_pure, Option.map_some]
      congr 2
      split <;> rfl
    · cases h
  · rename_i n e b o hu
    split at h
    · rename_i ht
      simp only [VR_ptr] at hx; obtain ⟨L, hL, rfl⟩ := hx
      obtain ⟨l, hh, m, h1, h2⟩ := sliceEx_rel (P := P) (w := w) (isS := false) hL h hlo hhi hmx
      refine ⟨_, ?_, h2⟩
      simp only [Instr.sliceAt, Sem.run_bind, run_underlying hu, Result.andThen_ok, Instr.sureAddr, h1, sizeOf_run e ht, Sem.run_pure]
    · cases h
  · rename_i a b o hu
    split at h
    · rename_i n e ha
      split at h
      · rename_i ht
        simp only [VR_ptr] at hx; obtain ⟨L, hL, rfl⟩ := hx
        obtain ⟨l, hh, m, h1, h2⟩ := sliceEx_rel (P := P) (w := w) (isS := false) hL h hlo hhi hmx
        refine ⟨_, ?_, h2⟩
        simp only [Instr.sliceAt, Sem.run_bind, run_underlying hu, Result.andThen_ok, Instr.slice, asAddr, run_underlying ha, h1, sizeOf_run e ht, Sem.run_pure]
      · cases h
    · cases h
  · cases h
end
end Go.AX

namespace Go.AX
open Go.RowKit
section
variable {P : Program} {N : NN} {φ : Phi} {h h' : H} {w : World}
def VOk (P : Program) (N : NN) (φ : Phi) (w : World) (m : Sem Value) (v : AV) (h' : H) : Prop :=
  ∃ φ' cv w', m.run P w = .ok cv w' ∧ VR φ' v cv ∧ φ.le φ' ∧ HR N φ' h' w' ∧ Below N w w'
def UOk (P : Program) (N : NN) (φ : Phi) (w : World) (m : Sem Unit) (h' : H) : Prop :=
  ∃ φ' w', m.run P w = .ok () w' ∧ φ.le φ' ∧ HR N φ' h' w' ∧ Below N w w'
theorem Pu.vok {m : Sem Value} {v : AV} (hr : HR N φ h w) (x : Pu P φ w m v) : VOk P N φ w m v h := by
  obtain ⟨cv, h1, h2⟩ := x
  exact ⟨φ, cv, w, h1, h2, φ.le_refl, hr, Below.refl _ _⟩
theorem zeroA_rel {t : TypeId} {z : AV} (hz : zeroA P t = some z) : ∃ cz, (zeroValue t).run P w = .ok cz w ∧ VR φ z cz ∧ (∀ a, a ∈ z.cells → a.one = true) ∧
    ∃ i, P.info? t = some i ∧ i.zero = some cz := by
  unfold zeroA at hz
  split at hz
  · rename_i i hi
    split at hz
    · rename_i v hv
      have hov : ofVal v = some z := by
        split at hz
        · cases hz
        · exact hz
      refine ⟨v, ?_, ofVal_rel hov, ?_, i, hi, hv⟩
      · simp only [zeroValue, typeInfo, Sem.run_bind, run_program, Result.andThen_ok, hi, Sem.run_pure, hv]
      · rcases ofVal_cells hov with h | h
        · exact h
        · subst h
          rw [hov] at hz; cases hz
    · cases hz
  · cases hz
theorem loadV_rel (hr : HR N φ h w) {L0 : Loc} {t : TypeId} {b o : Nat} (hL0 : φ b = some L0) {v : AV} (ht : okT P t = true) (hl : loadV P h t b o = some v) :
    ∃ L, φ b = some L ∧ Pu P φ w (loadVar t ⟨L.B, L.base + o, none⟩) v := by
  unfold loadV at hl
  split at hl
  · rename_i ha
    split at hl
    · rename_i l hrow
      cases hl
      obtain ⟨L, cl, hL, h1, h2, h3, h4⟩ := row_rel (P := P) hr hL0 hrow
      refine ⟨L, hL, .agg cl.toArray, ?_, VR_agg.2 ⟨_, rfl, h2⟩⟩
      simp only [loadVar, Sem.run_bind, aggT_run t ht, Result.andThen_ok, ha, if_true, sizeOf_run t ht, h1, Sem.run_pure]
    · cases hl
  · rename_i ha
    split at hl
    · rename_i n cs esz ro hb
      obtain ⟨L, cv, hL, h1, h2, h3⟩ := cell_rel hr hL0 hb hl
      refine ⟨L, hL, cv, ?_, h2⟩
      simp only [loadVar, Sem.run_bind, aggT_run t ht, Result.andThen_ok, ha, Bool.false_eq_true, if_false, run_load, h1]
    · cases hl
theorem storeV_rel (hr : HR N φ h w) {L0 : Loc} {t : TypeId} {b o : Nat} (hL0 : φ b = some L0) {v : AV} {cv : Value} (ht : okT P t = true) (hv : VR φ v cv) (hs : storeV P h t b o v = some h') :
    ∃ L, φ b = some L ∧ UOk P N φ w (storeVar t ⟨L.B, L.base + o, none⟩ cv) h' ∧ h'.nx = h.nx := by
  unfold storeV at hs
  split at hs
  · rename_i hsz
    have hsz := Nat.eq_of_beq_eq_true hsz
    obtain ⟨L, w', hL, h1, h2, h3, h4, h5⟩ := put_rel (P := P) hr hL0 hs hv.cells
    refine ⟨L, hL, ⟨φ, w', ?_, φ.le_refl, h2, h3⟩, h4⟩
    have e : cv.cells.size = P.cellsOf t := by rw [← hsz, hv.cells.length]; simp
    simp only [storeVar, Sem.run_bind, sizeOf_run t ht, Result.andThen_ok, e, ne_eq, not_true_eq_false, if_false, h1]
  · cases hs
theorem alloc_rel (hr : HR N φ h w) (hN : N ≤ w.heap.size) {l : List AV} {cv : Value} (hl : All2 (VR φ) l cv.cells.toList) (ho : ∀ a, a ∈ l → a.one = true) (t : TypeId) :
    VOk P N φ w (do pure (.pointer (some (← newVar t cv)))) (.ptr h.nx 0) (h.newCells t l) := by
  have := newCells_rel hr hN hl ho t
  refine ⟨_, .pointer (some ⟨w.heap.size, 0, none⟩), _, ?_, ?_, this.2, this.1, below_push _ hN⟩
  · simp only [newVar, newRow, Sem.run_bind, run_newObj, Result.andThen_ok, Sem.run_pure, Array.toArray_toList]
  · rw [VR_ptr]; exact ⟨_, Phi.ins_same _ _ _, by simp⟩
theorem allocOp_rel (hr : HR N φ h w) (hN : N ≤ w.heap.size) {t : TypeId} {z : AV} (hz : zeroA P t = some z) :
    VOk P N φ w (Instr.alloc t true (.tuple #[])) (.ptr h.nx 0) (h.newCells t z.cells) := by
  obtain ⟨cz, h1, h2, h3, _⟩ := zeroA_rel (w := w) (φ := φ) hz
  obtain ⟨φ', cv, w', g1, g2⟩ := alloc_rel (P := P) hr hN h2.cells h3 t
  refine ⟨φ', cv, w', ?_, g2⟩
  simp only [Instr.alloc, Sem.run_bind, h1, Result.andThen_ok]
  simpa only [Sem.run_bind] using g1
theorem boxOp_rel (hr : HR N φ h w) (hN : N ≤ w.heap.size) {t : TypeId} {v : AV} {cv : Value} (hv : VR φ v cv) (ho : allOne v.cells = true) :
    VOk P N φ w (Instr.box t cv) (.ptr h.nx 0) (h.newCells t v.cells) :=
  alloc_rel hr hN hv.cells (allOne_mem ho) t
theorem foldSet_get : ∀ (vs : List Value) (off k : Nat) (cells : Array Value), off + k + vs.length ≤ cells.size →
    ((vs.zipIdx k).foldl (fun cs (x : Value × Nat) => cs.setIfInBounds (off + x.2) x.1) cells).size = cells.size ∧
    ∀ i, ((vs.zipIdx k).foldl (fun cs (x : Value × Nat) => cs.setIfInBounds (off + x.2) x.1) cells)[i]? = if off + k ≤ i ∧ i < off + k + vs.length then vs[i - (off + k)]? else cells[i]?
  | [], off, k, cells, _ => ⟨rfl, fun i => by simp only [List.zipIdx_nil, List.foldl_nil, List.length_nil]; rw [if_neg (by omega)]⟩
  | v :: vs, off, k, cells, hs => by
    simp only [List.length_cons] at hs
    have ih := foldSet_get vs off (k + 1) (cells.setIfInBounds (off + k) v) (by simp only [Array.size_setIfInBounds]; omega)
    simp only [List.zipIdx_cons, List.foldl_cons]
    refine ⟨by rw [ih.1]; simp, fun i => ?_⟩
    rw [ih.2 i]
    by_cases q : off + (k + 1) ≤ i ∧ i < off + (k + 1) + vs.length
    · rw [if_pos q, if_pos (by simp only [List.length_cons]; omega), show i - (off + k) = (i - (off + (k + 1))) + 1 by omega]; simp
    · rw [if_neg q, Array.getElem?_setIfInBounds]
      by_cases e : off + k = i
      · subst e; rw [if_pos rfl, if_pos (by omega), if_pos (by simp only [List.length_cons]; omega)]; simp
      · rw [if_neg e, if_neg (by simp only [List.length_cons]; omega)]
theorem splice_get {cs : List AV} {off : Nat} {new : List AV} (hs : off + new.length ≤ cs.length) (i : Nat) :
    (splice cs off new)[i]? = if off ≤ i ∧ i < off + new.length then new[i - off]? else cs[i]? := by
  unfold splice
  by_cases q : i < off
  · rw [if_neg (by omega), List.append_assoc, List.getElem?_append_left (by simp; omega)]
    simp [q]
  · by_cases q2 : i < off + new.length
    · rw [if_pos (by omega), List.getElem?_append_left (by simp; omega), List.getElem?_append_right (by simp; omega)]
      simp; congr 1; omega
    · rw [if_neg (by omega), List.getElem?_append_right (by simp; omega)]
      simp; congr 1; omega
theorem splice_length {cs : List AV} {off : Nat} {new : List AV} (hs : off + new.length ≤ cs.length) : (splice cs off new).length = cs.length := by
  unfold splice; simp; omega
theorem fillA_rel {place : Nat → Option (Nat × Nat)} : ∀ {parts : List (Nat × AV)} {cparts : List (Nat × Value)} {cells l : List AV} {cc : Array Value},
    fillA place cells parts = some l → All2 (VR φ) cells cc.toList → All2 (fun (a : Nat × AV) (b : Nat × Value) => a.1 = b.1 ∧ VR φ a.2 b.2) parts cparts →
    ∃ cl, Instr.fill place cc cparts = some cl ∧ All2 (VR φ) l cl.toList
  | [], cparts, cells, l, cc, hf, hc, hp => by
    rw [All2.nil_left] at hp; subst hp
    simp only [fillA, Option.some.injEq] at hf; subst hf
    exact ⟨cc, rfl, hc⟩
  | (i, v) :: parts, cparts, cells, l, cc, hf, hc, hp => by
    obtain ⟨⟨j, cv⟩, cr, rfl, ⟨e, hv⟩, hp'⟩ := All2.cons_left.1 hp
    simp only at e; subst e
    simp only [fillA] at hf
    split at hf
    · cases hf
    · rename_i off size hpl
      split at hf
      · rename_i hb
        simp only [Bool.and_eq_true] at hb
        have b1 := Nat.eq_of_beq_eq_true hb.1
        have b2 := Nat.le_of_ble_eq_true hb.2
        have hvc := hv.cells
        have hl1 : v.cells.length = cv.cells.size := by rw [hvc.length]; simp
        have hl2 : cells.length = cc.size := by rw [hc.length]; simp
        have fs := foldSet_get cv.cells.toList off 0 cc (by simp; omega)
        have hnew : All2 (VR φ) (splice cells off v.cells) ((cv.cells.toList.zipIdx 0).foldl (fun cs (x : Value × Nat) => cs.setIfInBounds (off + x.2) x.1) cc).toList := by
          apply All2.of_get
          · exact (splice_length b2).trans (hl2.trans (fs.1.symm.trans Array.length_toList.symm))
          · intro i a b ha hb
            rw [splice_get b2] at ha
            rw [Array.getElem?_toList, fs.2 i] at hb
            simp only [Nat.add_zero, Array.length_toList, ← hl1] at hb
            split at ha
            · rename_i q
              rw [if_pos q] at hb
              obtain ⟨c, hc1, hc2⟩ := hvc.get ha
              rw [hc1] at hb; cases hb; exact hc2
            · rename_i q
              rw [if_neg q] at hb
              obtain ⟨c, hc1, hc2⟩ := hc.get ha
              rw [Array.getElem?_toList] at hc1
              rw [hc1] at hb; cases hb; exact hc2
        obtain ⟨cl, h1, h2⟩ := fillA_rel hf hnew hp'
        refine ⟨cl, ?_, h2⟩
        simp only [Instr.fill, hpl]
        have hcond : (decide (cv.cells.size ≠ size) || decide (off + cv.cells.size > cc.size)) = false := by
          simp only [Bool.or_eq_false_iff, decide_eq_false_iff_not]; omega
        rw [if_neg (by simpa using hcond)]
        rw [← Array.foldl_toList, Array.toList_zipIdx]
        exact h1
      · cases hf
theorem mapM_places {fields : Array Field} (hok : fields.toList.all (fun f => okT P f.type) = true) :
    (fields.mapM fun f => (do pure (f.offset, ← sizeOf f.type) : Sem (Nat × Nat))).run P w = .ok (fields.map fun f => (f.offset, P.cellsOf f.type)) w := by
  rw [Array.mapM_eq_mapM_toList, Sem.run_map]
  have : ∀ l : List Field, l.all (fun f => okT P f.type) = true → (l.mapM fun f => (do pure (f.offset, ← sizeOf f.type) : Sem (Nat × Nat))).run P w = .ok (l.map fun f => (f.offset, P.cellsOf f.type)) w := by
    intro l
    induction l with
    | nil => intro _; rfl
    | cons f l ih =>
      intro hl
      simp only [List.all_cons, Bool.and_eq_true] at hl
      simp only [List.mapM_cons, Sem.run_bind, sizeOf_run f.type hl.1, Result.andThen_ok, Sem.run_pure, ih hl.2, List.map_cons]
  rw [this _ hok]
  simp only [Result.andThen_ok]
  congr 1
  apply Array.ext'
  simp
theorem buildA_rel {t : TypeId} {parts : List (Nat × AV)} {cparts : Array (Nat × Value)} {v : AV} (hb : buildA P t parts = some v)
    (hp : All2 (fun (a : Nat × AV) (b : Nat × Value) => a.1 = b.1 ∧ VR φ a.2 b.2) parts cparts.toList) : Pu P φ w (Instr.build t cparts) v := by
  unfold buildA at hb
  split at hb
  · rename_i z fields hz hu
    obtain ⟨cz, h1, h2, h3, _⟩ := zeroA_rel (w := w) (φ := φ) hz
    split at hb
    · cases hb
    · rename_i hok
      split at hb
      · rename_i l hf
        cases hb
        have hpl : placeOf P fields.toList = fun i => (fields.map fun (f : Field) => (f.offset, P.cellsOf f.type))[i]? := by
          funext i
          rw [Array.getElem?_map, placeOf, Array.getElem?_toList]
          cases fields[i]? <;> rfl
        rw [hpl] at hf
        obtain ⟨cl, g1, g2⟩ := fillA_rel hf h2.cells hp
        refine ⟨.agg cl, ?_, VR_agg.2 ⟨_, rfl, g2⟩⟩
        simp only [Instr.build, Sem.run_bind, h1, Result.andThen_ok, run_underlying hu, mapM_places hok]
        simp only [g1, Sem.run_pure]
      · cases hb
  · rename_i z n elem hz hu
    obtain ⟨cz, h1, h2, h3, _⟩ := zeroA_rel (w := w) (φ := φ) hz
    simp only at hb
    split at hb
    · cases hb
    · rename_i hok
      split at hb
      · rename_i l hf
        cases hb
        obtain ⟨cl, g1, g2⟩ := fillA_rel hf h2.cells hp
        refine ⟨.agg cl, ?_, VR_agg.2 ⟨_, rfl, g2⟩⟩
        simp only [Instr.build, Sem.run_bind, h1, Result.andThen_ok, run_underlying hu, sizeOf_run elem hok, g1, Sem.run_pure]
      · cases hb
  · cases hb
theorem repl_length (l : List AV) : ∀ n, (repl l n).length = n * l.length
  | 0 => by simp [repl]
  | n + 1 => by
    have e : (n + 1) * l.length = n * l.length + l.length := Nat.succ_mul _ _
    rw [e, repl, List.length_append, repl_length l n, Nat.add_comm]
theorem mod_sub_self' {i m : Nat} (h : m ≤ i) : i % m = (i - m) % m := Nat.mod_eq_sub_mod h
theorem repl_get (l : List AV) : ∀ (n i : Nat), i < n * l.length → (repl l n)[i]? = l[i % l.length]?
  | 0, i, h => by simp at h
  | n + 1, i, h => by
    have hpos : 0 < l.length := by
      rcases Nat.eq_zero_or_pos l.length with e | e
      · rw [e] at h; simp at h
      · exact e
    simp only [repl]
    by_cases q : i < l.length
    · rw [List.getElem?_append_left q, Nat.mod_eq_of_lt q]
    · have h' : i - l.length < n * l.length := by
        have e : (n + 1) * l.length = n * l.length + l.length := Nat.succ_mul _ _
        rw [e] at h; omega
      rw [List.getElem?_append_right (by omega), repl_get l n (i - l.length) h', mod_sub_self' (Nat.le_of_not_lt q)]
theorem range_repl {zs : List AV} {zero : Array Value} (hz : All2 (VR φ) zs zero.toList) (n : Nat) :
    All2 (VR φ) (repl zs n) ((Array.range (n * zero.size)).map (fun i => zero[i % zero.size]!)).toList := by
  have hl : zs.length = zero.size := by rw [hz.length]; simp
  apply All2.of_get
  · rw [repl_length, hl]; simp
  · intro i a b ha hb
    have hi : i < n * zs.length := by rw [← repl_length]; exact (List.getElem?_eq_some_iff.1 ha).1
    rw [repl_get _ _ _ hi] at ha
    obtain ⟨c, hc, hR⟩ := hz.get ha
    have hb' : b = zero[i % zero.size]! := by
      have := List.getElem?_eq_some_iff.1 hb
      obtain ⟨h1, h2⟩ := this
      simp at h2
      exact h2.symm
    rw [hl, Array.getElem?_toList] at hc
    obtain ⟨h1, h2⟩ := Array.getElem?_eq_some_iff.1 hc
    rw [hb', getElem!_pos zero _ h1, h2]
    exact hR
theorem range_zero (f : Nat → Value) : ((Array.range 0).map f) = #[] := by simp
theorem buildSliceA_rel (hr : HR N φ h w) (hN : N ≤ w.heap.size) {t : TypeId} {len : Nat} {parts : List (Nat × AV)} {cparts : Array (Nat × Value)} {v : AV} (hb : buildSliceA P t len parts h = .val v h')
    (hp : All2 (fun (a : Nat × AV) (b : Nat × Value) => a.1 = b.1 ∧ VR φ a.2 b.2) parts cparts.toList) : VOk P N φ w (Instr.buildSlice t len cparts) v h' := by
  unfold buildSliceA at hb
  split at hb
  · rename_i elem hu
    simp only at hb
    split at hb
    · rename_i z hok hsm hz
      split at hb
      · rename_i l hbeq hf
        split at hb
        · rename_i hone
          cases hb
          have hbeq := Nat.eq_of_beq_eq_true hbeq
          obtain ⟨cz, h1, h2, h3, _⟩ := zeroA_rel (w := w) (φ := φ) hz
          have hsz : cz.cells.size = P.cellsOf elem := by rw [← hbeq, h2.cells.length]; simp
          have hrel := range_repl h2.cells len
          obtain ⟨cl, g1, g2⟩ := fillA_rel hf hrel hp
          have hnew := newCells_rel hr hN g2 (allOne_mem hone) elem
          have hle : len * P.cellsOf elem ≤ 4194304 := Nat.le_of_ble_eq_true hsm
          refine ⟨_, .slice (some ⟨w.heap.size, 0, none⟩) len len, _, ?_, ?_, hnew.2, hnew.1, below_push _ hN⟩
          · have c1 : ¬ (len * P.cellsOf elem > 2 ^ 24) := by omega
            simp only [Instr.buildSlice, Sem.run_bind, run_underlying hu, Result.andThen_ok, sizeOf_run elem hok, c1, if_false]
            by_cases e0 : len * P.cellsOf elem = 0
            · rw [hsz, e0, range_zero] at g1
              simp only [e0, if_true, Sem.run_bind, Sem.run_pure, Result.andThen_ok, range_zero, g1, newRow, run_newObj, Array.toArray_toList]
            · simp only [e0, if_false, Sem.run_bind, h1, Result.andThen_ok, Sem.run_pure]
              rw [hsz] at g1
              rw [hsz]
              simp only [g1, newRow, Sem.run_bind, run_newObj, Result.andThen_ok, Sem.run_pure, Array.toArray_toList]
          · rw [VR_sliceEx]; exact ⟨_, Phi.ins_same _ _ _, by simp⟩
        · cases hb
      · cases hb
    · cases hb
  · cases hb
theorem rowS_one {t : TypeId} {len : Nat} {parts : List (Nat × AV)} {e : TypeId} {l : List AV} {n : Nat} (hb : rowS P t len parts = some (e, l, n)) : ∀ a, a ∈ l → a.one = true := by
  unfold rowS at hb
  split at hb
  · simp only at hb
    split at hb
    · split at hb
      · split at hb
        · rename_i hone
          cases hb; exact allOne_mem hone
        · cases hb
      · cases hb
    · cases hb
  · cases hb
theorem rowS_run {t : TypeId} {len : Nat} {parts : List (Nat × AV)} {cparts : Array (Nat × Value)} {e : TypeId} {l : List AV} {n : Nat} (hb : rowS P t len parts = some (e, l, n))
    (hp : All2 (fun (a : Nat × AV) (b : Nat × Value) => a.1 = b.1 ∧ VR φ a.2 b.2) parts cparts.toList) :
    ∃ cl : List Value, (Instr.buildSlice t len cparts).run P w = .ok (.slice (some ⟨w.heap.size, 0, none⟩) n n) { w with heap := w.heap.push (.cells cl.toArray e) } ∧ All2 (VR φ) l cl := by
  unfold rowS at hb
  split at hb
  · rename_i elem hu
    simp only at hb
    split at hb
    · rename_i z hok hsm hz
      split at hb
      · rename_i l' hbeq hf
        split at hb
        · rename_i hone
          cases hb
          have hbeq := Nat.eq_of_beq_eq_true hbeq
          obtain ⟨cz, h1, h2, h3, _⟩ := zeroA_rel (w := w) (φ := φ) hz
          have hsz : cz.cells.size = P.cellsOf e := by rw [← hbeq, h2.cells.length]; simp
          have hrel := range_repl h2.cells len
          obtain ⟨cl, g1, g2⟩ := fillA_rel hf hrel hp
          have hle : len * P.cellsOf e ≤ 4194304 := Nat.le_of_ble_eq_true hsm
          refine ⟨cl.toList, ?_, g2⟩
          have c1 : ¬ (len * P.cellsOf e > 2 ^ 24) := by omega
          simp only [Instr.buildSlice, Sem.run_bind, run_underlying hu, Result.andThen_ok, sizeOf_run e hok, c1, if_false]
          by_cases e0 : len * P.cellsOf e = 0
          · rw [hsz, e0, range_zero] at g1
            simp only [e0, if_true, Sem.run_bind, Sem.run_pure, Result.andThen_ok, range_zero, g1, newRow, run_newObj, Array.toArray_toList]
          · simp only [e0, if_false, Sem.run_bind, h1, Result.andThen_ok, Sem.run_pure]
            rw [hsz] at g1
            rw [hsz]
            simp only [g1, newRow, Sem.run_bind, run_newObj, Result.andThen_ok, Sem.run_pure, Array.toArray_toList]
        · cases hb
      · cases hb
    · cases hb
  · cases hb
end
end Go.AX

namespace Go.AX
open Go.RowKit
theorem wrap_small {n : Int} (h0 : 0 ≤ n) (h1 : n < 9223372036854775808) : IntKind.i64.wrap n = n := by
  rw [← wrapF_eq]
  have e : Int.emod n 18446744073709551616 = n := Int.emod_eq_of_lt h0 (by omega)
  simp only [wrapF, e]
  rw [if_pos h1]
theorem bytesOf_get {s : ByteArray} {i b : Nat} (h : (bytesOf s)[i]? = some b) : ∃ c, s[i]? = some c ∧ c.toNat = b ∧ i < s.size := by
  unfold bytesOf at h
  rw [List.getElem?_map] at h
  cases hc : s.data.toList[i]? with
  | none => rw [hc] at h; cases h
  | some c =>
    rw [hc] at h
    simp only [Option.map_some, Option.some.injEq] at h
    have hi := (List.getElem?_eq_some_iff.1 hc)
    obtain ⟨h1, h2⟩ := hi
    have hsz : i < s.size := by simpa using h1
    refine ⟨c, ?_, h, hsz⟩
    rw [ByteArray.getElem?_lt' s i hsz]
    congr 1
section
variable {P : Program} {N : NN} {φ : Phi} {h h' : H} {w : World}
theorem rowM_run {t : TypeId} {x y : AV} {cx cy : Value} {e : TypeId} {l : List AV} {n : Nat} (hm : rowM P t x y = some (e, l, n)) (hx : VR φ x cx) (hy : VR φ y cy) :
    ∃ cl : List Value, (Instr.makeSlice t cx cy).run P w = .ok (.slice (some ⟨w.heap.size, 0, none⟩) n n) { w with heap := w.heap.push (.cells cl.toArray e) } ∧ All2 (VR φ) l cl ∧ (∀ a, a ∈ l → a.one = true) := by
  unfold rowM at hm
  split at hm
  · rename_i elem k1 l k2 c hu
    simp only [VR_int] at hx hy; subst hx; subst hy
    split at hm
    · rename_i info z hi hz hb
      split at hm
      · rename_i hc
        cases hm
        simp only [Bool.and_eq_true] at hb hc
        have b1 : l = n := Nat.eq_of_beq_eq_true hb.1
        have b2 : n ≤ 4194304 := Nat.le_of_ble_eq_true hb.2
        have b3 : info.bytes ≤ 4194304 := Nat.le_of_ble_eq_true hc.1.1.2
        have b4 := Nat.eq_of_beq_eq_true hc.1.2
        have hok := hc.1.1.1
        obtain ⟨cz, h1, h2, h3, _⟩ := zeroA_rel (w := w) (φ := φ) hz
        have hsz : cz.cells.size = info.size := by rw [← b4, h2.cells.length]; simp
        have hce : P.cellsOf e = info.size := by simp [Program.cellsOf, hi]
        have hmul : info.bytes * n ≤ 4194304 * 4194304 := Nat.mul_le_mul b3 b2
        refine ⟨_, ?_, range_repl h2.cells n, fun a ha => ?_⟩
        · have w1 : IntKind.i64.wrap (Int.ofNat l) = (l : Int) := wrap_small (by simp) (by simp; omega)
          have w2 : IntKind.i64.wrap (Int.ofNat n) = (n : Int) := wrap_small (by simp) (by simp; omega)
          have g1 : (decide ((n : Int) < 0) || decide ((info.bytes : Int) * (n : Int) > 2 ^ 48)) = false := by
            simp only [Bool.or_eq_false_iff, decide_eq_false_iff_not]
            refine ⟨by omega, ?_⟩
            have : (info.bytes : Int) * (n : Int) = ((info.bytes * n : Nat) : Int) := by simp
            rw [this]; omega
          have g2 : (decide ((l : Int) < 0)) = false := by simp
          have g3 : (decide ((l : Int) > (n : Int))) = false := by simp; omega
          have hti : (typeInfo e).run P w = .ok info w := by simp only [typeInfo, Sem.run_bind, run_program, Result.andThen_ok, hi, Sem.run_pure]
          simp only [Instr.makeSlice, Sem.run_bind, run_underlying hu, Result.andThen_ok, asInt, asIntOf, Sem.run_pure, hti, w1, w2, g1, g2, g3, Bool.or_self, Bool.false_eq_true, if_false, run_askRoom,
            sizeOf_run e hok, Int.toNat_natCast]
          have e1 : P.cellsOf e = cz.cells.size := by rw [hce, hsz]
          rw [e1]
          by_cases e0 : n * cz.cells.size = 0
          · simp only [e0, if_true, Sem.run_bind, Sem.run_pure, Result.andThen_ok, range_zero, newRow, run_newObj, Array.toArray_toList, b1]
          · simp only [e0, if_false, Sem.run_bind, h1, Sem.run_pure, Result.andThen_ok, newRow, run_newObj, Array.toArray_toList, b1]
        · have : ∀ n, ∀ a, a ∈ repl z.cells n → a.one = true := by
            intro n; induction n with
            | zero => simp [repl]
            | succ n ih => intro a ha; simp only [repl, List.mem_append] at ha; rcases ha with ha | ha
                           · exact h3 a ha
                           · exact ih a ha
          exact this n a ha
      · cases hm
    · cases hm
  · cases hm
theorem makeSliceA_rel (hr : HR N φ h w) (hN : N ≤ w.heap.size) {t : TypeId} {x y v : AV} {cx cy : Value} (hm : makeSliceA P t x y h = .val v h') (hx : VR φ x cx) (hy : VR φ y cy) :
    VOk P N φ w (Instr.makeSlice t cx cy) v h' := by
  unfold makeSliceA at hm
  split at hm
  · rename_i elem k1 l k2 c hu
    simp only [VR_int] at hx hy; subst hx; subst hy
    split at hm
    · rename_i info z hi hz hb
      split at hm
      · rename_i hc
        cases hm
        simp only [Bool.and_eq_true] at hb hc
        have b1 : l ≤ c := Nat.le_of_ble_eq_true hb.1
        have b2 : c ≤ 4194304 := Nat.le_of_ble_eq_true hb.2
        have b3 : info.bytes ≤ 4194304 := Nat.le_of_ble_eq_true hc.1.1.2
        have b4 := Nat.eq_of_beq_eq_true hc.1.2
        have b5 : 1 ≤ info.size := Nat.le_of_ble_eq_true hc.2
        have hok := hc.1.1.1
        obtain ⟨cz, h1, h2, h3, _⟩ := zeroA_rel (w := w) (φ := φ) hz
        have hsz : cz.cells.size = info.size := by rw [← b4, h2.cells.length]; simp
        have hce : P.cellsOf elem = info.size := by simp [Program.cellsOf, hi]
        have hnew := newCells_rel hr hN (range_repl h2.cells c) (fun a ha => by
          have : ∀ n, ∀ a, a ∈ repl z.cells n → a.one = true := by
            intro n; induction n with
            | zero => simp [repl]
            | succ n ih => intro a ha; simp only [repl, List.mem_append] at ha; rcases ha with ha | ha
                           · exact h3 a ha
                           · exact ih a ha
          exact this c a ha) elem
        have hmul : info.bytes * c ≤ 4194304 * 4194304 := Nat.mul_le_mul b3 b2
        refine ⟨_, .slice (some ⟨w.heap.size, 0, none⟩) l c, _, ?_, ?_, hnew.2, hnew.1, below_push _ hN⟩
        · have w1 : IntKind.i64.wrap (Int.ofNat l) = (l : Int) := wrap_small (by simp) (by simp; omega)
          have w2 : IntKind.i64.wrap (Int.ofNat c) = (c : Int) := wrap_small (by simp) (by simp; omega)
          have g1 : (decide ((c : Int) < 0) || decide ((info.bytes : Int) * (c : Int) > 2 ^ 48)) = false := by
            simp only [Bool.or_eq_false_iff, decide_eq_false_iff_not]
            refine ⟨by omega, ?_⟩
            have : (info.bytes : Int) * (c : Int) = ((info.bytes * c : Nat) : Int) := by simp
            rw [this]; omega
          have g2 : (decide ((l : Int) < 0)) = false := by simp
          have g3 : (decide ((l : Int) > (c : Int))) = false := by simp; omega
          have hti : (typeInfo elem).run P w = .ok info w := by simp only [typeInfo, Sem.run_bind, run_program, Result.andThen_ok, hi, Sem.run_pure]
          simp only [Instr.makeSlice, Sem.run_bind, run_underlying hu, Result.andThen_ok, asInt, asIntOf, Sem.run_pure, hti, w1, w2, g1, g2, g3, Bool.or_self, Bool.false_eq_true, if_false, run_askRoom,
            sizeOf_run elem hok, Int.toNat_natCast]
          have e : P.cellsOf elem = cz.cells.size := by rw [hce, hsz]
          rw [e]
          by_cases e0 : c * cz.cells.size = 0
          · simp only [e0, if_true, Sem.run_bind, Sem.run_pure, Result.andThen_ok, range_zero, newRow, run_newObj]
          · simp only [e0, if_false, Sem.run_bind, h1, Sem.run_pure, Result.andThen_ok, newRow, run_newObj, Array.toArray_toList]
        · rw [VR_sliceEx]; exact ⟨_, Phi.ins_same _ _ _, by simp⟩
      · cases hm
    · cases hm
  · cases hm
theorem sizeOf_run' {t : TypeId} (ht : P.cellsOf t ≠ 0) : (sizeOf t).run P w = .ok (P.cellsOf t) w := by
  unfold Program.cellsOf at ht ⊢
  cases hi : P.info? t with
  | none => rw [hi] at ht; exact absurd rfl ht
  | some i => simp only [sizeOf, typeInfo, Sem.run_bind, run_program, Result.andThen_ok, hi, Sem.run_pure]; rfl
theorem fieldAddrA_rel {t : TypeId} {x v : AV} {cx : Value} {i : Nat} (hx : VR φ x cx) (hf : fieldAddrA P t x i = some v) : Pu P φ w (Instr.fieldAt t cx i) v := by
  unfold fieldAddrA at hf
  split at hf
  · rename_i fields b o hu
    split at hf
    · rename_i f hfi
      split at hf
      · cases hf
      · rename_i hne
        have hne := Nat.ne_of_beq_eq_false hne
        cases hf
        simp only [VR_ptr] at hx; obtain ⟨L, hL, rfl⟩ := hx
        rw [Array.getElem?_toList] at hfi
        refine ⟨.pointer (some ⟨L.B, L.base + o + f.offset, none⟩), ?_, VR_ptr.2 ⟨L, hL, by rw [Nat.add_assoc]⟩⟩
        simp only [Instr.fieldAt, Sem.run_bind, run_underlying hu, Result.andThen_ok, hfi, Instr.sureAddr, Sem.run_pure, fieldPlace, sizeOf_run' hne, hne, if_false, add_none]
    · cases hf
  · cases hf
theorem fieldA_rel {t : TypeId} {x v : AV} {cx : Value} {i : Nat} (hx : VR φ x cx) (hf : fieldA P t x i = some v) : Pu P φ w (Instr.field t cx i) v := by
  unfold fieldA at hf
  split at hf
  · rename_i fields cs hu
    split at hf
    · rename_i f hfi
      split at hf
      · rename_i hok
        simp only [VR_agg] at hx; obtain ⟨a, rfl, ha⟩ := hx
        rw [Array.getElem?_toList] at hfi
        obtain ⟨cv, h1, h2⟩ := partA_rel (w := w) hok ha hf
        exact ⟨cv, by simp only [Instr.field, Sem.run_bind, run_underlying hu, Result.andThen_ok, hfi, asAgg, Sem.run_pure, h1], h2⟩
      · cases hf
    · cases hf
  · cases hf
theorem indexAddrA_rel {t : TypeId} {x ix v : AV} {cx ci : Value} (hx : VR φ x cx) (hi : VR φ ix ci) (hf : indexAddrA P t x ix = some v) : Pu P φ w (Instr.indexAt t cx ci) v := by
  unfold indexAddrA at hf
  split at hf
  · rename_i k i
    simp only [VR_int] at hi; subst hi
    split at hf
    · rename_i len e b o hu
      split at hf
      · rename_i hc
        simp only [Bool.and_eq_true] at hc
        have hlt : i < len := by have := Nat.le_of_ble_eq_true hc.1; omega
        cases hf
        simp only [VR_ptr] at hx; obtain ⟨L, hL, rfl⟩ := hx
        refine ⟨.pointer (some ⟨L.B, L.base + o + i * P.cellsOf e, none⟩), ?_, VR_ptr.2 ⟨L, hL, by rw [Nat.add_assoc]⟩⟩
        have hb : (0 : Int) ≤ Int.ofNat i ∧ Int.ofNat i < (len : Int) := ⟨by simp, by simp; omega⟩
        simp only [Instr.indexAt, Sem.run_bind, run_underlying hu, Result.andThen_ok, asIntOf, Instr.sureAddr, Sem.run_pure, hb, and_self, if_true, sizeOf_run e hc.2]
        simp only [add_none, Int.ofNat_eq_natCast, Int.toNat_natCast]
      · cases hf
    · rename_i e b o len c hu
      split at hf
      · rename_i hc
        simp only [Bool.and_eq_true] at hc
        have hlt : i < len := by have := Nat.le_of_ble_eq_true hc.1; omega
        cases hf
        have hx' : ∃ L cap, φ b = some L ∧ cx = .slice (some ⟨L.B, L.base + o, none⟩) len cap := by
          cases c with
          | exact c => rw [VR_sliceEx] at hx; obtain ⟨L, hL, e⟩ := hx; exact ⟨L, c, hL, e⟩
          | opn j => rw [VR_sliceOp] at hx; obtain ⟨L, hL, e, _⟩ := hx; exact ⟨L, _, hL, e⟩
        obtain ⟨L, cap, hL, rfl⟩ := hx'
        refine ⟨.pointer (some ⟨L.B, L.base + o + i * P.cellsOf e, none⟩), ?_, VR_ptr.2 ⟨L, hL, by rw [Nat.add_assoc]⟩⟩
        have hb : (0 : Int) ≤ Int.ofNat i ∧ Int.ofNat i < (len : Int) := ⟨by simp, by simp; omega⟩
        simp only [Instr.indexAt, Sem.run_bind, run_underlying hu, Result.andThen_ok, asIntOf, Sem.run_pure, hb, and_self, if_true, sizeOf_run e hc.2]
        simp only [add_none, Int.ofNat_eq_natCast, Int.toNat_natCast]
      · cases hf
    · cases hf
  · cases hf
theorem indexA_rel {t : TypeId} {x ix v : AV} {cx ci : Value} (hx : VR φ x cx) (hi : VR φ ix ci) (hf : indexA P t x ix = some v) : Pu P φ w (Instr.index t cx ci) v := by
  unfold indexA at hf
  split at hf
  · rename_i k i
    simp only [VR_int] at hi; subst hi
    split at hf
    · rename_i len e cs hu
      split at hf
      · rename_i hc
        simp only [Bool.and_eq_true] at hc
        have hlt : i < len := by have := Nat.le_of_ble_eq_true hc.1; omega
        simp only [VR_agg] at hx; obtain ⟨a, rfl, ha⟩ := hx
        obtain ⟨cv, h1, h2⟩ := partA_rel (w := w) hc.2 ha hf
        have hb : (0 : Int) ≤ Int.ofNat i ∧ Int.ofNat i < (len : Int) := ⟨by simp, by simp; omega⟩
        refine ⟨cv, ?_, h2⟩
        simp only [Instr.index, Sem.run_bind, run_underlying hu, Result.andThen_ok, asIntOf, Sem.run_pure, hb, and_self, if_true, sizeOf_run e hc.2]
        simpa using h1
      · cases hf
    · rename_i s hu
      split at hf
      · rename_i b hb
        cases hf
        simp only [VR_str] at hx; obtain ⟨s, rfl, rfl⟩ := hx
        obtain ⟨c, h1, h2, h3⟩ := bytesOf_get hb
        refine ⟨.int .u8 c.toNat, ?_, by rw [VR_int, h2]; rfl⟩
        have hb : (0 : Int) ≤ Int.ofNat i := by simp
        simp only [Instr.index, Sem.run_bind, run_underlying hu, Result.andThen_ok, asIntOf, Sem.run_pure, hb, if_true]
        have : (Int.ofNat i).toNat = i := by simp
        rw [this, h1]
        rfl
      · cases hf
    · cases hf
  · cases hf
theorem lenOfA_rel {x : AV} {cx : Value} {n : Nat} (hx : VR φ x cx) (hl : lenOfA x = some n) : (Builtin.lenOf cx).run P w = .ok n w := by
  cases x with
  | nilslice => simp at hx; subst hx; simp only [lenOfA, Option.some.injEq] at hl; subst hl; rfl
  | slice0 => simp at hx; obtain ⟨a, c, rfl⟩ := hx; simp only [lenOfA, Option.some.injEq] at hl; subst hl; rfl
  | slice b o len c => obtain ⟨a, cap, rfl⟩ := VR_slice_some hx; simp only [lenOfA, Option.some.injEq] at hl; subst hl; rfl
  | str s =>
    simp only [VR_str] at hx; obtain ⟨b, rfl, rfl⟩ := hx
    simp only [lenOfA, Option.some.injEq] at hl; subst hl
    simp only [Builtin.lenOf, Sem.run_pure]
    congr 1
    simp [bytesOf]
  | _ => simp [lenOfA] at hl
theorem slice_addr {b o len : Nat} {c : Cap} {cx : Value} (hx : VR φ (.slice b o len c) cx) : ∃ L cap, φ b = some L ∧ cx = .slice (some ⟨L.B, L.base + o, none⟩) len cap := by
  cases c with
  | exact c => rw [VR_sliceEx] at hx; obtain ⟨L, hL, e⟩ := hx; exact ⟨L, c, hL, e⟩
  | opn j => rw [VR_sliceOp] at hx; obtain ⟨L, hL, e, _⟩ := hx; exact ⟨L, _, hL, e⟩
theorem srcA_rel (hr : HR N φ h w) {x : AV} {cx : Value} {size n m : Nat} {l : List AV} (hx : VR φ x cx) (hm : lenOfA x = some m) (hnm : n ≤ m) (hl : srcA h size n x = some l) :
    ∃ arr, (Builtin.firstCells size n cx).run P w = .ok arr w ∧ All2 (VR φ) l arr.toList ∧ (∀ a, a ∈ l → a.one = true) := by
  cases x with
  | nilslice => simp at hx; subst hx; simp only [srcA, Option.some.injEq] at hl; subst hl; exact ⟨#[], rfl, trivial, by simp⟩
  | slice0 =>
    simp at hx; obtain ⟨a, c, rfl⟩ := hx; simp only [srcA, Option.some.injEq] at hl; subst hl
    simp only [lenOfA, Option.some.injEq] at hm; subst hm
    have : n = 0 := by omega
    subst this
    exact ⟨#[], by simp [Builtin.firstCells, loadCells, loadCellsFrom], trivial, by simp⟩
  | slice b o len c =>
    obtain ⟨L', cap, hL', rfl⟩ := slice_addr hx
    simp only [srcA] at hl
    obtain ⟨L, cl, hL, h1, h2, h3, h4⟩ := row_rel (P := P) hr hL' hl
    rw [hL'] at hL; cases hL
    exact ⟨cl.toArray, h1, h2, h4⟩
  | str s =>
    simp only [VR_str] at hx; obtain ⟨b, rfl, rfl⟩ := hx
    simp only [srcA, Option.some.injEq] at hl; subst hl
    refine ⟨_, rfl, ?_, ?_⟩
    · rw [Array.toList_map, All2.map_left, All2.map_right]
      have e : (b.extract 0 n).data.toList = b.data.toList.take n := by rw [ByteArray.data_extract, Array.toList_extract]; simp [List.extract]
      rw [e, bytesOf, ← List.map_take, All2.map_left]
      exact All2.same (fun a => by simp) _
    · intro a ha; simp only [List.mem_map] at ha; obtain ⟨_, _, rfl⟩ := ha; rfl
  | _ => simp [srcA] at hl
end
end Go.AX


/-
  AX: operations on values alone: what the evaluator reckons is what the machine reckons.
-/
import Derived.Test.YtnhnhiieomhgfaaGreatDoorAxMem
import Derived.Laws.StructEq
import Derived.Laws.Entries
import Derived.Laws.Strings
namespace Go.AX

theorem forceInt_eq {α : Type} (n : Int) (k : Int → α) : forceInt n k = k n := by
  cases n with
  | ofNat m => cases m <;> rfl
  | negSucc m => cases m <;> rfl

theorem wrap_aux (m c d : Int) : (if m < c then m else m - d) = if m ≥ c then m - d else m := by
  by_cases h : m < c
  · rw [if_pos h, if_neg (by omega)]
  · rw [if_neg h, if_pos (by omega)]

theorem wrapF_eq (k : IntKind) (n : Int) : wrapF k n = k.wrap n := by
  cases k <;> simp only [wrapF, wrap_aux] <;> simp [IntKind.wrap, IntKind.signed, IntKind.bits] <;> rfl

theorem modF_eq (k : IntKind) : modF k = 2 ^ k.bits := by cases k <;> rfl

theorem low_eq (k : IntKind) (n : Int) : low k n = (BitVec.ofInt k.bits n).toNat := by
  rw [low, modF_eq, BitVec.toNat_ofInt]; rfl

theorem eqB_eq {a b : IntKind} (h : IntKind.eqB a b = true) : a = b := by
  cases a <;> cases b <;> first | rfl | (simp [IntKind.eqB] at h)

theorem listEqB_eq : ∀ a b : List Nat, listEqB a b = (a == b)
  | [], [] => rfl
  | a :: x, b :: y => by
    simp only [listEqB, List.cons_beq_cons]
    cases h : Nat.beq a b
    · have := Nat.ne_of_beq_eq_false h; simp [this]
    · have := Nat.eq_of_beq_eq_true h; simp [this, listEqB_eq x y]
  | [], _ :: _ => rfl
  | _ :: _, [] => rfl

theorem bytesOf_eq (s : ByteArray) : bytesOf s = s.toList.map UInt8.toNat := by rw [ByteArray.toList_eq]; rfl

theorem map_toNat_beq : ∀ a b : List UInt8, (a.map UInt8.toNat == b.map UInt8.toNat) = (a == b)
  | [], [] => rfl
  | a :: x, b :: y => by
    simp only [List.map_cons, List.cons_beq_cons, map_toNat_beq x y]
    congr 1
    rw [Bool.eq_iff_iff]; simp [UInt8.toNat_inj]
  | [], _ :: _ => rfl
  | _ :: _, [] => rfl

theorem map_toNat_lt : ∀ a b : List UInt8, listLtB (a.map UInt8.toNat) (b.map UInt8.toNat) = Op.bytesLess a b
  | [], [] => rfl
  | a :: x, b :: y => by
    simp only [List.map_cons, listLtB, Op.bytesLess, map_toNat_lt x y]
    have e1 : Nat.blt a.toNat b.toNat = decide (a < b) := by
      rw [Bool.eq_iff_iff]; simp [Nat.blt, UInt8.lt_iff_toNat_lt]; omega
    have e2 : Nat.beq a.toNat b.toNat = (a == b) := by
      rw [Bool.eq_iff_iff]; simp [UInt8.toNat_inj]
    rw [e1, e2]
    cases decide (a < b) <;> cases (a == b) <;> simp
  | [], _ :: _ => by simp [listLtB, Op.bytesLess]
  | _ :: _, [] => by simp [listLtB, Op.bytesLess]

section
variable {P : Program} {φ : Phi} {w : World}

theorem ofVal1_rel {v : Value} {a : AV} (h : ofVal1 v = some a) : VR φ a v ∧ a.one = true := by
  unfold ofVal1 at h
  split at h <;> simp only [Option.some.injEq, reduceCtorEq] at h <;> subst h <;> simp [AV.one]

theorem ofVals_rel : ∀ {l : List Value} {a : List AV}, ofVals l = some a → All2 (VR φ) a l ∧ ∀ x, x ∈ a → x.one = true
  | [], a, h => by simp only [ofVals, Option.some.injEq] at h; subst h; exact ⟨trivial, by simp⟩
  | v :: l, a, h => by
    simp only [ofVals] at h
    split at h
    · cases h
    · rename_i x hx
      split at h
      · cases h
      · rename_i y hy
        cases h
        have h1 := ofVal1_rel (φ := φ) hx
        have h2 := ofVals_rel hy
        refine ⟨⟨h1.1, h2.1⟩, fun z hz => ?_⟩
        rcases List.mem_cons.1 hz with rfl | hz
        · exact h1.2
        · exact h2.2 z hz

theorem ofVal_rel {v : Value} {a : AV} (h : ofVal v = some a) : VR φ a v := by
  unfold ofVal at h
  split at h
  · split at h
    · rename_i cs l hl; cases h; rw [VR_agg]; exact ⟨_, rfl, (ofVals_rel hl).1⟩
    · cases h
  · split at h
    · rename_i cs hl; cases h
      rw [und, VR_tuple]; exact ⟨_, rfl, by rw [hl]; trivial⟩
    · cases h
  · exact (ofVal1_rel h).1

/-- A zero value has cells of one cell each. -/
theorem ofVal_cells {v : Value} {a : AV} (h : ofVal v = some a) : (∀ x, x ∈ a.cells → x.one = true) ∨ a = und := by
  unfold ofVal at h
  split at h
  · split at h
    · rename_i cs l hl; cases h; exact .inl (ofVals_rel (φ := fun _ => none) hl).2
    · cases h
  · split at h
    · cases h; exact .inr rfl
    · cases h
  · have h1 := (ofVal1_rel (φ := fun _ => none) h).2
    left; intro x hx
    have : a.cells = [a] := by cases a <;> simp_all [AV.one, AV.cells]
    rw [this] at hx; simp at hx; subst hx; exact h1

theorem intB_rel {op : BinOp} {k : IntKind} {a b : Int} {t : TypeId} {v : AV} (h : intB op k a b = some v) (hs : op ≠ .shl ∧ op ≠ .shr) :
    ∃ cv, (binOp op t (.int k a) (.int k b)).run P w = .ok cv w ∧ VR φ v cv := by
  cases op <;> simp only [intB, forceInt_eq, wrapF_eq, Option.some.injEq, reduceCtorEq] at h <;> first
    | (exact absurd rfl hs.1)
    | (exact absurd rfl hs.2)
    | (subst h; refine ⟨_, ?_, VR_int.2 rfl⟩; simp [binOp, Op.intArith]; done)
    | (subst h; refine ⟨_, ?_, VR_bool.2 rfl⟩; simp [binOp, Op.intCmp]; done)
    | (subst h; refine ⟨_, ?_, VR_int.2 rfl⟩; simp only [low_eq]; simp [binOp, Op.intBits]; done)
    | (cases hb : (b == 0)
       · simp only [hb, cond_false, Option.some.injEq] at h
         subst h; refine ⟨_, ?_, VR_int.2 rfl⟩
         have hb' : ¬ b = 0 := by simpa using hb
         simp [binOp, Op.intDiv, hb']
       · simp [hb] at h)
    | (subst h; refine ⟨_, ?_, VR_int.2 rfl⟩
       simp only [low_eq, modF_eq]
       simp [binOp, Op.intBits, BitVec.toNat_not])

theorem shiftB_rel {op : BinOp} {k yk : IntKind} {a y : Int} {t : TypeId} {v : AV} (h : shiftB op k a y = some v) (hs : op = .shl ∨ op = .shr) :
    ∃ cv, (binOp op t (.int k a) (.int yk y)).run P w = .ok cv w ∧ VR φ v cv := by
  unfold shiftB at h
  split at h
  · cases h
  · rename_i y
    have hy : ¬ ((y : Int) < 0) := by omega
    rcases hs with rfl | rfl
    · simp only [forceInt_eq, wrapF_eq, Option.some.injEq] at h; subst h
      refine ⟨_, ?_, VR_int.2 rfl⟩
      simp [binOp, Op.shift, hy]
    · simp only [forceInt_eq, Option.some.injEq] at h; subst h
      refine ⟨_, ?_, VR_int.2 rfl⟩
      simp [binOp, Op.shift, hy]

theorem strB_rel {op : BinOp} {a b : ByteArray} {t : TypeId} {v : AV} (h : strB op (bytesOf a) (bytesOf b) = some v) :
    ∃ cv, (binOp op t (.string a) (.string b)).run P w = .ok cv w ∧ VR φ v cv := by
  have eb : listEqB (bytesOf a) (bytesOf b) = (a.toList == b.toList) := by rw [listEqB_eq, bytesOf_eq, bytesOf_eq, map_toNat_beq]
  have lb : listLtB (bytesOf a) (bytesOf b) = Op.bytesLess a.toList b.toList := by rw [bytesOf_eq, bytesOf_eq, map_toNat_lt]
  have ls : ∀ s : ByteArray, (bytesOf s).length = s.size := by intro s; simp [bytesOf]
  cases op <;> simp only [strB, eb, lb, ls, Option.some.injEq, reduceCtorEq] at h <;> first
    | (subst h; refine ⟨_, ?_, VR_bool.2 rfl⟩; simp [binOp, Op.stringOp]; done)
    | (split at h
       · rename_i hle
         cases h
         have hle' := Nat.le_of_ble_eq_true hle
         refine ⟨.string (a ++ b), ?_, VR_str.2 ⟨_, rfl, by simp [bytesOf]⟩⟩
         have : ¬ (((a.size + b.size : Nat) : Int) > IntKind.i64.max) := by rw [IntKind.max_i64]; omega
         simp only [binOp, Op.stringOp, this, if_false]; rfl
       · cases h)

theorem aggT_run (t : TypeId) (ht : okT P t = true) : (isAgg t).run P w = .ok (aggT P t) w := by
  unfold okT at ht
  cases h : P.underlying t with
  | none => rw [h] at ht; cases ht
  | some d =>
    simp only [isAgg, Sem.run_bind, run_underlying h, Result.andThen_ok, aggT, h]
    cases d <;> rfl

theorem okT_info {t : TypeId} (ht : okT P t = true) : ∃ i, P.info? t = some i := by
  unfold okT Program.underlying at ht
  cases h : P.info? t with
  | none => rw [h] at ht; cases ht
  | some i => exact ⟨i, rfl⟩

theorem sizeOf_run (t : TypeId) (ht : okT P t = true) : (sizeOf t).run P w = .ok (P.cellsOf t) w := by
  obtain ⟨i, hi⟩ := okT_info ht
  simp only [sizeOf, typeInfo, Sem.run_bind, run_program, Result.andThen_ok, hi, Sem.run_pure, Program.cellsOf]
  rfl

theorem partA_rel {t : TypeId} {cs : List AV} {ccs : Array Value} {off : Nat} {v : AV} (ht : okT P t = true) (hc : All2 (VR φ) cs ccs.toList) (h : partA P t cs off = some v) :
    ∃ cv, (part t ccs off).run P w = .ok cv w ∧ VR φ v cv := by
  unfold partA at h
  split at h
  · rename_i ha
    cases h
    refine ⟨.agg (ccs.extract off (off + P.cellsOf t)), ?_, VR_agg.2 ⟨_, rfl, ?_⟩⟩
    · simp only [part, Sem.run_bind, aggT_run t ht, Result.andThen_ok, ha, if_true, sizeOf_run t ht, Sem.run_pure]
    · rw [Array.toList_extract]
      simpa [List.extract] using (hc.drop off).take (P.cellsOf t)
  · rename_i ha
    obtain ⟨cv, h1, h2⟩ := hc.get h
    refine ⟨cv, ?_, h2⟩
    have h1' : ccs[off]? = some cv := by simpa using h1
    simp only [part, Sem.run_bind, aggT_run t ht, Result.andThen_ok, ha, if_false, Bool.false_eq_true, h1', Sem.run_pure]

theorem eqFields_rel {d D : Nat} (hd : ∀ (t : TypeId) (x y : AV) (cx cy : Value) (r : Bool), eqA P d t x y = some r → VR φ x cx → VR φ y cy → (Op.equalIn D t cx cy).run P w = .ok r w)
    (hok : ∀ (t : TypeId) (x y : AV) (r : Bool), eqA P d t x y = some r → okT P t = true) {xs ys : List AV} {cxs cys : Array Value} (hx : All2 (VR φ) xs cxs.toList) (hy : All2 (VR φ) ys cys.toList) :
    ∀ (fs : List Field) (r : Bool), eqFields P (eqA P d) xs ys fs = some r → (Op.eqFields D cxs cys fs).run P w = .ok r w
  | [], r, h => by simp only [eqFields, Option.some.injEq] at h; subst h; rfl
  | f :: fs, r, h => by
    simp only [eqFields] at h
    split at h
    · cases h
    · rename_i hn
      have hn' : f.name ≠ "_" := by simpa using hn
      split at h
      · rename_i x y px py
        split at h
        · rename_i he
          have ht := hok _ _ _ _ he
          obtain ⟨cx, r1, v1⟩ := partA_rel (w := w) ht hx px
          obtain ⟨cy, r2, v2⟩ := partA_rel (w := w) ht hy py
          have := hd _ _ _ _ _ _ he v1 v2
          simp only [Op.eqFields, ne_eq, hn', not_false_eq_true, if_true, Sem.run_bind, r1, r2, this, Result.andThen_ok, Bool.not_true, Bool.false_eq_true, if_false]
          exact eqFields_rel hd hok hx hy fs r h
        · rename_i he
          cases h
          have ht := hok _ _ _ _ he
          obtain ⟨cx, r1, v1⟩ := partA_rel (w := w) ht hx px
          obtain ⟨cy, r2, v2⟩ := partA_rel (w := w) ht hy py
          have := hd _ _ _ _ _ _ he v1 v2
          simp only [Op.eqFields, ne_eq, hn', not_false_eq_true, if_true, Sem.run_bind, r1, r2, this, Result.andThen_ok, Bool.not_false]
          rfl
        · cases h
      · cases h

theorem eqA_ok {d : Nat} {t : TypeId} {x y : AV} {r : Bool} (h : eqA P d t x y = some r) : okT P t = true := by
  cases d with
  | zero => cases h
  | succ d =>
    unfold okT
    cases hu : P.underlying t with
    | none => simp only [eqA, hu] at h; cases h
    | some _ => rfl

theorem VR_slice_some {b o len : Nat} {c : Cap} {v : Value} (h : VR φ (.slice b o len c) v) : ∃ a cap, v = .slice (some a) len cap := by
  cases c <;> simp at h
  · obtain ⟨L, _, rfl⟩ := h; exact ⟨_, _, rfl⟩
  · obtain ⟨L, _, rfl, _⟩ := h; exact ⟨_, _, rfl⟩

set_option maxHeartbeats 1000000 in
theorem eqA_rel : ∀ (d D : Nat), d ≤ D → ∀ (t : TypeId) (x y : AV) (cx cy : Value) (r : Bool), eqA P d t x y = some r → VR φ x cx → VR φ y cy → (Op.equalIn D t cx cy).run P w = .ok r w
  | 0, _, _, _, _, _, _, _, _, h, _, _ => by cases h
  | d + 1, 0, hD, _, _, _, _, _, _, _, _, _ => by omega
  | d + 1, D + 1, hD, t, x, y, cx, cy, r, h, hx, hy => by
    have ih := eqA_rel d D (by omega)
    simp only [eqA] at h
    split at h
    · rename_i hu
      simp at hx hy h; subst hx; subst hy; subst h
      simp [Op.equalIn, run_underlying hu]
    · rename_i hu
      split at h
      · rename_i hk
        have := eqB_eq hk; subst this
        simp at hx hy h; subst hx; subst hy; subst h
        simp [Op.equalIn, run_underlying hu]
      · cases h
    · rename_i hu
      simp only [VR_str] at hx hy; obtain ⟨a, rfl, rfl⟩ := hx; obtain ⟨b, rfl, rfl⟩ := hy
      simp only [Option.some.injEq] at h; subst h
      rw [run_equalIn_string _ _ _ _ _ hu, listEqB_eq, bytesOf_eq, bytesOf_eq, map_toNat_beq]
    · rename_i hu
      simp at hx hy h; subst hx; subst hy; subst h; simp [Op.equalIn, run_underlying hu]
    · rename_i e b o c p hu
      simp only [VR_ptr] at hx hy; obtain ⟨L, hL, rfl⟩ := hx; obtain ⟨M, hM, rfl⟩ := hy
      split at h
      · rename_i h1 h2
        have h1 := Nat.eq_of_beq_eq_true h1
        have h2 := Nat.eq_of_beq_eq_true h2
        subst h1; subst h2
        rw [hL] at hM; cases hM
        split at h
        · rename_i hok
          simp only [Option.some.injEq] at h; subst h
          simp [Op.equalIn, run_underlying hu, sizeOf_run e hok, sameAddr]
        · cases h
      · rename_i h1 h2
        have h1 := Nat.eq_of_beq_eq_true h1
        have h2 := Nat.ne_of_beq_eq_false h2
        subst h1
        rw [hL] at hM; cases hM
        split at h
        · rename_i hok
          simp only [Bool.and_eq_true] at hok
          have hs := Nat.le_of_ble_eq_true hok.2
          have hs' : P.cellsOf e ≠ 0 := by omega
          simp only [Option.some.injEq] at h; subst h
          simp [Op.equalIn, run_underlying hu, sizeOf_run e hok.1, sameAddr, hs', h2]
        · cases h
      · cases h
    · rename_i hu
      simp at hx hy h; obtain ⟨L, _, rfl⟩ := hy; subst hx; subst h; simp [Op.equalIn, run_underlying hu]
    · rename_i hu
      simp at hx hy h; obtain ⟨L, _, rfl⟩ := hx; subst hy; subst h; simp [Op.equalIn, run_underlying hu]
    · rename_i hu
      simp at hx hy h; subst hx; subst hy; subst h; simp [Op.equalIn, run_underlying hu]
    · rename_i hu
      simp at hx hy h; obtain ⟨L, rfl, _⟩ := hy; subst hx; subst h; simp [Op.equalIn, run_underlying hu]
    · rename_i hu
      simp at hx hy h; obtain ⟨L, rfl, _⟩ := hx; subst hy; subst h; simp [Op.equalIn, run_underlying hu]
    · rename_i ms tx ax ty ay hu
      simp only [VR_iface] at hx hy; obtain ⟨vx, rfl, hvx⟩ := hx; obtain ⟨vy, rfl, hvy⟩ := hy
      cases ht : Nat.beq tx ty
      · simp only [ht, Option.some.injEq] at h; subst h
        have hne := Nat.ne_of_beq_eq_false ht
        simp [Op.equalIn, run_underlying hu, hne]
      · have he := Nat.eq_of_beq_eq_true ht
        simp only [ht] at h; subst he
        split at h
        · rename_i i hi
          split at h
          · rename_i hc
            simp [Op.equalIn, run_underlying hu, typeInfo, hi, hc]
            exact ih _ _ _ _ _ _ h hvx hvy
          · cases h
        · cases h
    · rename_i hu
      simp only [VR_agg] at hx hy; obtain ⟨a, rfl, ha⟩ := hx; obtain ⟨b, rfl, hb⟩ := hy
      split at h
      · cases h
      · rename_i hs
        have hf : P.underlying t = some (.struct (P.fieldsOf t)) := by rw [Program.fieldsOf, hu]
        rw [run_equalIn_struct _ _ _ _ _ hf hs]
        have e : ∀ F, P.underlying t = some (.struct F) → P.fieldsOf t = F := fun F hF => by unfold Program.fieldsOf; rw [hF]
        rw [e _ hu]
        exact eqFields_rel ih (fun _ _ _ _ => eqA_ok) ha hb _ _ h
    · rename_i hu
      simp at hx hy h; subst hx; subst hy; subst h; simp [Op.equalIn, run_underlying hu]
    · rename_i hu
      obtain ⟨a, c, rfl⟩ := VR_slice_some hy
      simp at hx h; subst hx; subst h; simp [Op.equalIn, run_underlying hu]
    · rename_i hu
      obtain ⟨a, c, rfl⟩ := VR_slice_some hx
      simp at hy h; subst hy; subst h; simp [Op.equalIn, run_underlying hu]
    · rename_i hu
      simp at hx hy h; obtain ⟨a, c, rfl⟩ := hy; subst hx; subst h; simp [Op.equalIn, run_underlying hu]
    · rename_i hu
      simp at hx hy h; obtain ⟨a, c, rfl⟩ := hx; subst hy; subst h; simp [Op.equalIn, run_underlying hu]
    · rename_i hu
      simp at hx hy h; subst hx; subst hy; subst h; simp [Op.equalIn, run_underlying hu]
    · rename_i hu
      simp at hx hy h; obtain ⟨a, _, rfl⟩ := hy; subst hx; subst h; simp [Op.equalIn, run_underlying hu]
    · rename_i hu
      simp at hx hy h; obtain ⟨a, _, rfl⟩ := hx; subst hy; subst h; simp [Op.equalIn, run_underlying hu]
    · rename_i hu
      simp at hx hy h; subst hx; subst hy; subst h; simp [Op.equalIn, run_underlying hu]
    · rename_i hu
      simp at hx hy h; obtain ⟨a, b, rfl, _⟩ := hy; subst hx; subst h; simp [Op.equalIn, run_underlying hu]
    · rename_i hu
      simp at hx hy h; obtain ⟨a, b, rfl, _⟩ := hx; subst hy; subst h; simp [Op.equalIn, run_underlying hu]
    · cases h

end
end Go.AX

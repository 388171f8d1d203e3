/-
  AX: operations: append, copy, conversions.
-/
import Derived.Test.YtnedigoajoflaaaAxB
set_option linter.unusedSimpArgs false
set_option linter.unusedVariables false
namespace Go.AX
open Go.RowKit
theorem small_le {n : Nat} (h : small n = true) : n ≤ 4194304 := Nat.le_of_ble_eq_true h
section
variable {P : Program} {N : NN} {φ : Phi} {h h' : H} {w : World}
theorem run_typeInfo {t : TypeId} {i : TypeInfo} (hi : P.info? t = some i) : (typeInfo t).run P w = .ok i w := by
  simp only [typeInfo, Sem.run_bind, run_program, Result.andThen_ok, hi, Sem.run_pure]
theorem zeroCells_size (z : Array Value) (n : Nat) : (Builtin.zeroCells z n).size = n * z.size := by simp [Builtin.zeroCells]
theorem keepK_sz {k : EK} {size : Nat} {e : TypeId} : (keepK k size e).sz = size := by
  unfold keepK; split <;> rfl
theorem keepK_ty {k : EK} {size : Nat} {e : TypeId} : (keepK k size e).ty ≠ 0 → e + 1 = (keepK k size e).ty := by
  unfold keepK; split
  · intro _; rfl
  · intro h; exact absurd rfl h
theorem keepK_old {k : EK} {size : Nat} {e : TypeId} : (keepK k size e).ty ≠ 0 → k.ty = (keepK k size e).ty := by
  unfold keepK; split
  · rename_i h; intro _; exact Nat.eq_of_beq_eq_true h
  · intro h; exact absurd rfl h
theorem grown_new (hr : HR N φ h w) (hN : N ≤ w.heap.size) {l : List AV} {cl : List Value} {rest : Array Value} {t : TypeId} {K : Nat} {esz : EK}
    (hl : All2 (VR φ) l cl) (ho : ∀ a, a ∈ l → a.one = true) (hsz : cl.length + rest.size = K * esz.sz) (hty : esz.ty ≠ 0 → t + 1 = esz.ty) (hs0 : esz.sz ≠ 0) (hK63 : K ≤ 9223372036854775807) (frz : Nat × Nat) (hf : frz = (0, 0) ∨ frz = (K * esz.sz, K * esz.sz + 1))
    (w' : World) (hw : w'.heap = w.heap.push (.cells (cl.toArray ++ rest) t frz)) (old : Option Nat) :
    HR N (φ.ins h.nx ⟨w.heap.size, 0, K⟩) (h.grown old esz l) w' ∧ φ.le (φ.ins h.nx ⟨w.heap.size, 0, K⟩) := by
  have hle : φ.le (φ.ins h.nx ⟨w.heap.size, 0, K⟩) := Phi.le_ins _ (hr.lt _ (Nat.le_refl _))
  have hor : OR (φ.ins h.nx ⟨w.heap.size, 0, K⟩) N ⟨w.heap.size, 0, K⟩ w' (.cells (lenL l) (T.ofRow l) esz false) := by
    rw [lenL_eq]
    have hcs : (cl.toArray ++ rest).size = K * esz.sz := by simp; exact hsz
    refine ⟨cl.toArray ++ rest, t, frz, by rw [hw]; simp, ?_, fun i v hi => ?_, fun _ => ⟨hN, fun i hi => ?_⟩, ⟨fun _ => ⟨by rw [hcs]; simp, hK63⟩, fun _ => rfl, hty, fun e _ => absurd e hs0⟩⟩
    · rw [hcs, hl.length]; simp only [Nat.zero_add]; omega
    · rw [T.get_ofRow] at hi
      obtain ⟨cv, hcv, hR⟩ := hl.get hi
      have hi' := (List.getElem?_eq_some_iff.1 hi).1
      refine ⟨hi', ho v (List.mem_of_getElem? hi), cv, ?_, hR.le hle⟩
      have hi2 : i < cl.length := by rw [← hl.length]; exact hi'
      rw [Nat.zero_add, Array.getElem?_append_left (by simpa using hi2)]
      simpa using hcv
    · rw [hcs] at hi
      rcases hf with rfl | rfl
      · simp
      · simp; omega
  cases old with
  | none => exact hr.push _ 0 K _ hw hor
  | some b => exact (hr.drop b).push _ 0 K _ hw hor
section
variable {ts : Array TypeId} {args : Array Value} {ty t u e : TypeId} {cx : Value} {d : TypeDesc} {base : Option Addr} {sLen sCap n : Nat} {new : Array Value}
theorem append_fits (t0 : ts[0]? = some t) (t1 : ts[1]? = some u) (a0 : args[0]? = some (.slice base sLen sCap)) (a1 : args[1]? = some cx)
    (ht : P.underlying t = some (.slice e)) (hu : P.underlying u = some d) (hd : ∀ k, d ≠ .int k) (hok : okT P e = true) (hn : (Builtin.lenOf cx).run P w = .ok n w)
    (hf : sLen + n ≤ sCap) (hnew : (Builtin.firstCells (P.cellsOf e) n cx).run P w = .ok new w) :
    (Builtin.append_ ts ty args).run P w = match base with
      | some a => ((storeCells (a.add (sLen * P.cellsOf e)) new.toList).run P w).andThen fun _ w' => .ok (.slice base (sLen + n) sCap) w'
      | none => .ok (.slice base (sLen + n) sCap) w := by
  cases d <;> first
    | exact absurd rfl (hd _)
    | (simp only [Builtin.append_, t0, t1, a0, a1, Sem.run_bind, run_underlying ht, run_underlying hu, Result.andThen_ok, sizeOf_run e hok, Sem.run_pure, Bool.false_eq_true, if_false, hn, hf, if_true, Bool.not_false, hnew]
       cases base with
       | none => simp only [Sem.run_pure]
       | some a => simp only [Sem.run_pure, Sem.run_bind])
theorem append_grows (t0 : ts[0]? = some t) (t1 : ts[1]? = some u) (a0 : args[0]? = some (.slice base sLen sCap)) (a1 : args[1]? = some cx)
    (ht : P.underlying t = some (.slice e)) (hu : P.underlying u = some d) (hd : ∀ k, d ≠ .int k) (hok : okT P e = true) (hn : (Builtin.lenOf cx).run P w = .ok n w)
    (hf : ¬ sLen + n ≤ sCap) {info : TypeInfo} (hi : P.info? e = some info) (hb : info.bytes ≤ 4194304) (hb0 : info.bytes ≠ 0) (hs : sLen + n ≤ 4194304) {z : Value} (hz0 : ∀ w, (zeroValue e).run P w = .ok z w)
    {old : Array Value} (hold : (Builtin.firstCells (P.cellsOf e) sLen (.slice base sLen sCap)).run P { w with drawn := w.drawn + 1 } = .ok old { w with drawn := w.drawn + 1 })
    (hnew : (Builtin.firstCells (P.cellsOf e) n cx).run P { w with drawn := w.drawn + 1 } = .ok new { w with drawn := w.drawn + 1 }) :
    ∃ cap w', (sLen + n ≤ cap ∧ cap ≤ 9223372036854775807) ∧ (Builtin.append_ ts ty args).run P w = .ok (.slice (some ⟨w.heap.size, 0, none⟩) (sLen + n) cap) w' ∧
      w'.heap = w.heap.push (.cells (old ++ new ++ Builtin.zeroCells z.cells (cap - (sLen + n))) e) ∧ w'.os = w.os ∧ w'.tape = w.tape ∧ w'.output = w.output := by
  have g1 : ¬ (((sLen + n : Nat) : Int) > IntKind.i64.max ∧ (False ∨ info.bytes = 0)) := fun x => by
    rcases x.2 with x | x
    · exact x
    · exact hb0 x
  have g2 : ¬ (Builtin.nextslicecap (sLen + n) sCap * info.bytes > 2 ^ 48) := by
    have := nextslicecap_le (need := sLen + n) (old := sCap) (by omega)
    have h2 : Builtin.nextslicecap (sLen + n) sCap * info.bytes ≤ 8388608 * 4194304 := Nat.mul_le_mul (by omega) hb
    omega
  have hq : (Question.appendCap (sLen + n) sCap e).forced = false := rfl
  refine ⟨(Question.appendCap (sLen + n) sCap e).cut (w.tape w.drawn (.appendCap (sLen + n) sCap e)),
    { w with heap := w.heap.push (.cells (old ++ new ++ Builtin.zeroCells z.cells ((Question.appendCap (sLen + n) sCap e).cut (w.tape w.drawn (.appendCap (sLen + n) sCap e)) - (sLen + n))) e), drawn := w.drawn + 1 }, ?_, ?_, rfl, rfl, rfl, rfl⟩
  · simp only [Question.cut]; have hp : 0 < 2 ^ 63 - (sLen + n) := by omega
    have := Nat.mod_lt (w.tape w.drawn (Question.appendCap (sLen + n) sCap e)) hp
    omega
  · cases d <;> first
      | exact absurd rfl (hd _)
      | (simp only [Builtin.append_, t0, t1, a0, a1, Sem.run_bind, run_underlying ht, run_underlying hu, Result.andThen_ok, sizeOf_run e hok, Sem.run_pure, Bool.false_eq_true, if_false, hn, hf, run_typeInfo hi, g1, g2, run_choose, hq, run_askRoom,
          Bool.not_false, if_true]
         rw [hold]
         simp only [Result.andThen_ok]
         rw [hnew]
         simp only [Result.andThen_ok, hz0, newRow, Sem.run_bind, run_newObj, Sem.run_pure])
end
theorem info_cells {e : TypeId} {i : TypeInfo} (hi : P.info? e = some i) : P.cellsOf e = i.size := by simp [Program.cellsOf, hi]
theorem below_eq {w' : World} (hN : N ≤ w.heap.size) {O : Obj} (hw : w'.heap = w.heap.push O) (h1 : w'.os = w.os) (h2 : w'.tape = w.tape) (h3 : w'.output = w.output) : Below N w w' :=
  ⟨h1, h2, h3, by rw [hw]; simp, fun k hk => by rw [hw, Array.getElem?_push, if_neg (by omega)]⟩
theorem arr_eq (cl : List Value) (a : Array Value) : (cl ++ a.toList).toArray = cl.toArray ++ a := by simp
theorem mem_append_one {a b : List AV} (ha : ∀ x, x ∈ a → x.one = true) (hb : ∀ x, x ∈ b → x.one = true) : ∀ x, x ∈ a ++ b → x.one = true := fun x hx => by
  rcases List.mem_append.1 hx with q | q
  · exact ha x q
  · exact hb x q
theorem loadCells_get {cs : T AV} : ∀ {k o : Nat} {l : List AV}, H.loadCells cs o k = some l → ∀ j a, l[j]? = some a → cs.get (o + j) = some a
  | 0, _, _, h, j, a, hj => by simp only [H.loadCells, Option.some.injEq] at h; subst h; simp at hj
  | k + 1, o, l, h, j, a, hj => by
    simp only [H.loadCells] at h
    split at h
    · cases h
    · rename_i v hv
      split at h
      · cases h
      · rename_i l' hl'
        cases h
        cases j with
        | zero => simp only [List.getElem?_cons_zero, Option.some.injEq] at hj; subst hj; exact hv
        | succ j =>
          simp only [List.getElem?_cons_succ] at hj
          have := loadCells_get hl' j a hj
          rwa [show o + 1 + j = o + (j + 1) by omega] at this
theorem grown_over (hr : HR N φ h w) {b o i len n size ecells : Nat} {cs : T AV} {L : Loc} {k k' : EK} (hb : h.t.get b = some (.cells ecells cs k false)) (hks : k.sz = size) (hks' : k'.sz = size) (hkt : k'.ty ≠ 0 → k.ty = k'.ty) (hL : φ b = some L) (hs0 : size ≠ 0) (ho : o = i * size)
    {old new : List AV} {cl : List Value} (hold : H.loadCells cs o (len * size) = some old) (hn : All2 (VR φ) new cl) (hone : ∀ a, a ∈ new → a.one = true) (hlen : new.length = n * size) (hfit : i + (len + n) ≤ L.K) :
    ∃ w', (storeCells ⟨L.B, L.base + o + len * size, none⟩ cl).run P w = .ok () w' ∧ HR N (φ.ins h.nx ⟨L.B, L.base + o, L.K - i⟩) (h.grown (some b) k' (old ++ new)) w' ∧
      φ.le (φ.ins h.nx ⟨L.B, L.base + o, L.K - i⟩) ∧ Below N w w' := by
  have hor := hr.get hb hL
  have hlt := hor.lt
  obtain ⟨c, t, frz, g1, g2, g3, g4, g5⟩ := hor
  obtain ⟨hN, hfr⟩ := g4 rfl
  obtain ⟨hcs, hk63⟩ := g5.1 (by rw [hks]; exact hs0)
  rw [hks] at hcs
  have hcl : cl.length = n * size := by rw [← hn.length]; exact hlen
  have hle : φ.le (φ.ins h.nx ⟨L.B, L.base + o, L.K - i⟩) := Phi.le_ins _ (hr.lt _ (Nat.le_refl _))
  have hmul : i * size + (len * size + n * size) ≤ L.K * size := by
    rw [← Nat.add_mul, ← Nat.add_mul]; exact Nat.mul_le_mul_right _ hfit
  have hsub : L.K * size = i * size + (L.K - i) * size := by rw [← Nat.add_mul]; congr 1; omega
  have hol := loadCells_length hold
  obtain ⟨c', r1, r2, r3⟩ := run_storeCells P (B := L.B) (base := L.base + o + len * size) (t := t) (frz := frz) cl 0 w c g1
    (fun j hj => by rw [hcl] at hj; exact ⟨by omega, hfr _ (by omega)⟩)
    (fun v hv => by
      obtain ⟨j, hj⟩ := List.getElem?_of_mem hv
      obtain ⟨a, ha, hR⟩ := hn.get' hj
      exact hR.one (hone a (List.mem_of_getElem? ha)))
  refine ⟨_, r1, ?_, hle, below_setB _ hN⟩
  have hd := hr.drop b
  refine (hd.add (w' := setB w L.B (.cells c' t frz)) ⟨L.B, L.base + o, L.K - i⟩ (.cells (lenL (old ++ new)) (T.ofRow (old ++ new)) k' false) ?_ ?_ ?_).1
  · intro x ox L0 hx hL0 e
    have hx' : x ≠ b ∧ h.t.get x = some ox := by
      simp only [T.get_set] at hx
      split at hx
      · cases hx
      · rename_i q; exact ⟨q, hx⟩
    exact hx'.1 (hr.inj x ox b _ L0 L hx'.2 hb hL0 hL e)
  · intro x ox L0 hx hL0
    have hx' : x ≠ b ∧ h.t.get x = some ox := by
      simp only [T.get_set] at hx
      split at hx
      · cases hx
      · rename_i q; exact ⟨q, hx⟩
    rw [setB_get hlt, if_neg (fun e => hx'.1 (hr.inj x ox b _ L0 L hx'.2 hb hL0 hL e))]
  · rw [lenL_eq]
    refine ⟨c', t, frz, by rw [setB_get hlt, if_pos rfl], ?_, fun j v hj => ?_, fun _ => ⟨hN, by rw [r2]; exact hfr⟩, ⟨fun _ => ?_, fun e => absurd (hks'.symm.trans e) hs0, fun e => by rw [← hkt e]; exact g5.2.2.1 (by rw [hkt e]; exact e), fun e _ => absurd (hks'.symm.trans e) hs0⟩⟩
    · rw [r2, List.length_append, hol, hlen]; show L.base + o + _ ≤ _; omega
    · rw [T.get_ofRow] at hj
      have hjl := (List.getElem?_eq_some_iff.1 hj).1
      have hj2 : j < len * size + n * size := by rw [List.length_append, hol, hlen] at hjl; exact hjl
      refine ⟨hjl, ?_⟩
      show v.one = true ∧ ∃ cv, c'[L.base + o + j]? = some cv ∧ VR _ v cv
      by_cases q : j < len * size
      · rw [List.getElem?_append_left (by omega)] at hj
        obtain ⟨u1, u2, cv, u3, u4⟩ := g3 _ _ (loadCells_get hold j v hj)
        refine ⟨u2, cv, ?_, u4.le hle⟩
        rw [r3, if_neg (by omega), Nat.add_assoc]; exact u3
      · rw [List.getElem?_append_right (by omega), hol] at hj
        obtain ⟨cv, hcv, hR⟩ := hn.get hj
        refine ⟨hone v (List.mem_of_getElem? hj), cv, ?_, hR.le hle⟩
        rw [r3, if_pos (by omega), show L.base + o + j - (L.base + o + len * size + 0) = j - len * size by omega]; exact hcv
    · refine ⟨?_, Nat.le_trans (Nat.sub_le _ _) hk63⟩
      rw [r2, hcs, hsub, ho, hks']; show _ = L.base + i * size + (L.K - i) * size; omega
theorem repl_one {l : List AV} (hl : ∀ a, a ∈ l → a.one = true) : ∀ n a, a ∈ repl l n → a.one = true
  | 0, _, h => by simp [repl] at h
  | n + 1, a, h => by
    simp only [repl, List.mem_append] at h
    rcases h with h1 | h1
    · exact hl a h1
    · exact repl_one hl n a h1
theorem appendOk_rel {e : TypeId} {info : TypeInfo} (hi : P.info? e = some info) (h : appendOk P e info = true) :
    P.cellsOf e = info.size ∧ info.bytes ≤ 4194304 ∧ info.bytes ≠ 0 ∧ info.size ≠ 0 ∧ okT P e = true ∧ ∃ z, z.cells.size = info.size ∧ ∀ w, (zeroValue e).run P w = .ok z w := by
  unfold appendOk at h
  simp only [Bool.and_eq_true, Bool.not_eq_true', Bool.or_eq_false_iff] at h
  obtain ⟨⟨hb, hok⟩, ⟨hz1, hz2⟩, hz3⟩ := h
  obtain ⟨z, hz4, hz5⟩ : ∃ z, info.zero = some z ∧ z.cells.size = info.size := by
    cases hzz : info.zero with
    | none => rw [hzz] at hz3; simp at hz3
    | some z => rw [hzz] at hz3; simp at hz3; exact ⟨z, rfl, hz3⟩
  refine ⟨info_cells hi, by have := small_le hb; omega, Nat.ne_of_beq_eq_false hz1, Nat.ne_of_beq_eq_false hz2, hok, z, hz5, fun w => ?_⟩
  simp only [zeroValue, Sem.run_bind, run_typeInfo hi, Result.andThen_ok, hz4, Sem.run_pure]
theorem appendN_rel (hr : HR N φ h w) (hN : N ≤ w.heap.size) {ts : Array TypeId} {args : Array Value} {ty e : TypeId} {size n : Nat} {s v : AV} {new : List AV} {cs z : Value} {arr arr1 : Array Value}
    (hce : P.cellsOf e = size) (hs0 : size ≠ 0) (hz2 : z.cells.size = size) (ha2 : All2 (VR φ) new arr.toList) (ha3 : ∀ a, a ∈ new → a.one = true) (hb2 : All2 (VR φ) new arr1.toList)
    (F : ∀ base sLen sCap, cs = .slice base sLen sCap → sLen + n ≤ sCap → (Builtin.append_ ts ty args).run P w = match base with
      | some a => ((storeCells (a.add (sLen * P.cellsOf e)) arr.toList).run P w).andThen fun _ w' => .ok (.slice base (sLen + n) sCap) w'
      | none => .ok (.slice base (sLen + n) sCap) w)
    (G : ∀ base sLen sCap old, cs = .slice base sLen sCap → ¬ sLen + n ≤ sCap → sLen + n ≤ 4194304 → (Builtin.firstCells (P.cellsOf e) sLen (.slice base sLen sCap)).run P { w with drawn := w.drawn + 1 } = .ok old { w with drawn := w.drawn + 1 } →
      ∃ cap w', (sLen + n ≤ cap ∧ cap ≤ 9223372036854775807) ∧ (Builtin.append_ ts ty args).run P w = .ok (.slice (some ⟨w.heap.size, 0, none⟩) (sLen + n) cap) w' ∧
        w'.heap = w.heap.push (.cells (old ++ arr1 ++ Builtin.zeroCells z.cells (cap - (sLen + n))) e) ∧ w'.os = w.os ∧ w'.tape = w.tape ∧ w'.output = w.output)
    (hs : VR φ s cs) (ha : appendN e size s n new h = .val v h') : VOk P N φ w (Builtin.append_ ts ty args) v h' := by
  have hb3 := ha3
  unfold appendN at ha
  split at ha
  · cases ha
  · rename_i hlen
    have hlen := Nat.eq_of_beq_eq_true hlen
    rw [lenL_eq] at hlen
    have hr1 : HR N φ h { w with drawn := w.drawn + 1 } := hr.heap_eq rfl
    split at ha
    · -- nil
      simp only [VR_nilslice] at hs; subst hs
      split at ha
      · cases ha
        refine ⟨φ, .slice none 0 0, w, ?_, VR_nilslice.2 rfl, φ.le_refl, hr, Below.refl _ _⟩
        rw [F _ _ _ rfl (by omega)]
      · rename_i n0
        split at ha
        · rename_i hsm
          cases ha
          have hsm := small_le hsm
          have hold : (Builtin.firstCells (P.cellsOf e) 0 (.slice none 0 0)).run P { w with drawn := w.drawn + 1 } = .ok #[] { w with drawn := w.drawn + 1 } := rfl
          have npos : n ≠ 0 := fun e0 => n0 e0
          obtain ⟨cap, w', ⟨hc1, hc63⟩, hc2, hc3, hc4, hc5, hc6⟩ := G _ _ _ _ rfl (by omega) (by omega) hold
          have hsz : arr1.toList.length + (Builtin.zeroCells z.cells (cap - (0 + n))).size = cap * size := by
            rw [zeroCells_size, hz2, ← hb2.length, hlen, ← Nat.add_mul]; congr 1; omega
          have hg := grown_new hr hN (t := e) (esz := ⟨size, e + 1⟩) hb2 hb3 hsz (fun _ => rfl) hs0 hc63 (0, 0) (.inl rfl) w' (by rw [hc3]; simp) none
          refine ⟨_, _, w', hc2, ?_, hg.2, hg.1, below_eq hN hc3 hc4 hc5 hc6⟩
          rw [VR_sliceOp]
          exact ⟨_, Phi.ins_same _ _ _, by simp, by simpa using hc1⟩
        · cases ha
    · -- no elements, no place
      simp only [VR_slice0] at hs; obtain ⟨a, c, rfl⟩ := hs
      split at ha
      · cases ha
        refine ⟨φ, .slice (some a) 0 c, w, ?_, VR_slice0.2 ⟨_, _, rfl⟩, φ.le_refl, hr, Below.refl _ _⟩
        have he : arr.toList = [] := by
          have : new = [] := by
            have := hlen; simp at this; exact this
          subst this; exact All2.nil_left.1 ha2
        rw [F _ _ _ rfl (by omega), he]
        simp [storeCells]
      · cases ha
    · -- an exact capacity
      rename_i b o len c
      have hs' := hs
      rw [VR_sliceEx] at hs'; obtain ⟨L, hL, rfl⟩ := hs'
      split at ha
      · rename_i hfit
        have hfit := Nat.le_of_ble_eq_true hfit
        split at ha
        · rename_i h1 hput
          cases ha
          obtain ⟨L', w', hL', p1, p2, p3, _, _⟩ := put_rel (P := P) hr hL hput ha2
          rw [hL] at hL'; cases hL'
          refine ⟨φ, .slice (some ⟨L.B, L.base + o, none⟩) (len + n) c, w', ?_, by rw [VR_sliceEx]; exact ⟨L, hL, rfl⟩, φ.le_refl, p2, p3⟩
          rw [F _ _ _ rfl hfit]
          simp only [add_none, hce, Nat.add_assoc]
          rw [p1]; rfl
        · cases ha
      · rename_i hfit
        have hfit : ¬ (len + n ≤ c) := fun x => by rw [Nat.ble_eq_true_of_le x] at hfit; cases hfit
        split at ha
        · rename_i old hsm hrow
          cases ha
          have hsm := small_le hsm
          obtain ⟨L', cl, hL', r1, r2, r3, r4⟩ := row_rel (P := P) hr1 hL hrow
          rw [hL] at hL'; cases hL'
          have hold : (Builtin.firstCells (P.cellsOf e) len (.slice (some ⟨L.B, L.base + o, none⟩) len c)).run P { w with drawn := w.drawn + 1 } = .ok cl.toArray { w with drawn := w.drawn + 1 } := by
            rw [hce]; exact r1
          obtain ⟨cap, w', ⟨hc1, hc63⟩, hc2, hc3, hc4, hc5, hc6⟩ := G _ _ _ _ rfl hfit hsm hold
          have hsz : (cl ++ arr1.toList).length + (Builtin.zeroCells z.cells (cap - (len + n))).size = cap * size := by
            rw [zeroCells_size, hz2, List.length_append, ← hb2.length, hlen, r3, ← Nat.add_mul, ← Nat.add_mul]; congr 1; omega
          have hg := grown_new hr hN (t := e) (esz := ⟨size, e + 1⟩) (r2.append hb2) (mem_append_one r4 hb3) hsz (fun _ => rfl) hs0 hc63 (0, 0) (.inl rfl) w' (by rw [hc3, arr_eq]) none
          refine ⟨_, _, w', hc2, ?_, hg.2, hg.1, below_eq hN hc3 hc4 hc5 hc6⟩
          rw [VR_sliceOp]
          exact ⟨_, Phi.ins_same _ _ _, by simp, by simpa using hc1⟩
        · cases ha
    · -- a capacity that is not known
      rename_i b o len i
      have hs' := hs
      rw [VR_sliceOp] at hs'; obtain ⟨L, hL, rfl, hK⟩ := hs'
      split at ha
      · cases ha
        refine ⟨φ, .slice (some ⟨L.B, L.base + o, none⟩) len (L.K - i), w, ?_, hs, φ.le_refl, hr, Below.refl _ _⟩
        have he : arr.toList = [] := by
          have : new = [] := by
            have := hlen; simp at this; exact this
          subst this; exact All2.nil_left.1 ha2
        rw [F _ _ _ rfl (by omega), he]
        simp [storeCells]
      · split at ha
        · rename_i ecells cs esz hb2' ho
          have ho := Nat.eq_of_beq_eq_true ho
          split at ha
          · cases ha
          · rename_i hesz
            have hesz := Nat.eq_of_beq_eq_true hesz
            split at ha
            · rename_i hin
              have hin := Nat.le_of_ble_eq_true hin
              split at ha
              · rename_i h1 hput
                cases ha
                obtain ⟨L', w', hL', p1, p2, p3, _, _⟩ := put_rel (P := P) hr hL hput ha2
                rw [hL] at hL'; cases hL'
                obtain ⟨c, t', frz, g1, g2, g3, g4, g5⟩ := hr.get hb2' hL
                obtain ⟨hcs, hk63⟩ := g5.1 (by rw [hesz]; exact hs0)
                rw [hesz] at hcs
                have hle : i + (len + n) ≤ L.K := by
                  have : (i + (len + n)) * size ≤ L.K * size := by rw [Nat.add_mul, ← ho]; omega
                  exact Nat.le_of_mul_le_mul_right this (by omega)
                refine ⟨φ, .slice (some ⟨L.B, L.base + o, none⟩) (len + n) (L.K - i), w', ?_, by rw [VR_sliceOp]; exact ⟨L, hL, rfl, hle⟩, φ.le_refl, p2, p3⟩
                rw [F _ _ _ rfl (by omega)]
                simp only [add_none, hce, Nat.add_assoc]
                rw [p1]; rfl
              · cases ha
            · split at ha
              · rename_i old hsm hrow
                rw [loadRow_eq] at hrow
                cases ha
                have hsm := small_le hsm
                by_cases hfit : i + (len + n) ≤ L.K
                · obtain ⟨w', p1, p2, p3, p4⟩ := grown_over (P := P) (k' := keepK esz size e) hr hb2' hesz keepK_sz keepK_old hL hs0 ho hrow ha2 ha3 hlen hfit
                  refine ⟨_, .slice (some ⟨L.B, L.base + o, none⟩) (len + n) (L.K - i), w', ?_, ?_, p3, p2, p4⟩
                  · rw [F _ _ _ rfl (by omega)]
                    simp only [add_none, hce]
                    rw [p1]; rfl
                  · rw [VR_sliceOp]
                    exact ⟨_, Phi.ins_same _ _ _, by simp, by show 0 + (len + n) ≤ L.K - i; omega⟩
                · obtain ⟨cl, r2, r3, _, r4⟩ := loadCells_rel (hr1.get hb2' hL) _ _ _ hrow
                  have hrow' : h.row b o (len * size) = some old := by unfold H.row; rw [hb2']; exact (loadRow_eq _ _ _).trans hrow
                  obtain ⟨L', cl, hL', r1, r2, r3, r4⟩ := row_rel (P := P) hr1 hL hrow'
                  rw [hL] at hL'; cases hL'
                  have hold : (Builtin.firstCells (P.cellsOf e) len (.slice (some ⟨L.B, L.base + o, none⟩) len (L.K - i))).run P { w with drawn := w.drawn + 1 } = .ok cl.toArray { w with drawn := w.drawn + 1 } := by
                    rw [hce]; exact r1
                  obtain ⟨cap, w', ⟨hc1, hc63⟩, hc2, hc3, hc4, hc5, hc6⟩ := G _ _ _ _ rfl (by omega) hsm hold
                  have hsz : (cl ++ arr1.toList).length + (Builtin.zeroCells z.cells (cap - (len + n))).size = cap * size := by
                    rw [zeroCells_size, hz2, List.length_append, ← hb2.length, hlen, r3, ← Nat.add_mul, ← Nat.add_mul]; congr 1; omega
                  have hg := grown_new hr hN (t := e) (esz := keepK esz size e) (r2.append hb2) (mem_append_one r4 hb3) (by rw [keepK_sz]; exact hsz) keepK_ty (by rw [keepK_sz]; exact hs0) hc63 (0, 0) (.inl rfl) w' (by rw [hc3, arr_eq]) (some b)
                  refine ⟨_, _, w', hc2, ?_, hg.2, hg.1, below_eq hN hc3 hc4 hc5 hc6⟩
                  rw [VR_sliceOp]
                  exact ⟨_, Phi.ins_same _ _ _, by simp, by simpa using hc1⟩
              · cases ha
        · cases ha
    · cases ha
theorem appendA_rel (hr : HR N φ h w) (hN : N ≤ w.heap.size) {ts : Array TypeId} {args : Array Value} {ty t u e : TypeId} {d : TypeDesc} {s x v : AV} {cs cx : Value}
    (t0 : ts[0]? = some t) (t1 : ts[1]? = some u) (a0 : args[0]? = some cs) (a1 : args[1]? = some cx)
    (ht : P.underlying t = some (.slice e)) (hu : P.underlying u = some d) (hd : ∀ k, d ≠ .int k) (hs : VR φ s cs) (hx : VR φ x cx) (ha : appendA P e s x h = .val v h') :
    VOk P N φ w (Builtin.append_ ts ty args) v h' := by
  unfold appendA at ha
  split at ha
  · cases ha
  · rename_i info hi
    split at ha
    · rename_i n hn hap
      obtain ⟨hce, hbytes, hb0, hs0, hok, z, hz2, hz0⟩ := appendOk_rel hi hap
      split at ha
      · cases ha
      · rename_i new hnew
        have hln := fun w => lenOfA_rel (P := P) (w := w) hx hn
        have src : ∀ w', HR N φ h w' → ∃ arr, (Builtin.firstCells (P.cellsOf e) n cx).run P w' = .ok arr w' ∧ All2 (VR φ) new arr.toList ∧ ∀ a, a ∈ new → a.one = true := fun w' hr' => by
          rw [hce]; exact srcA_rel hr' hx hn (Nat.le_refl _) hnew
        obtain ⟨arr, ha1, ha2, ha3⟩ := src w hr
        obtain ⟨arr1, hb1, hb2, hb3⟩ := src { w with drawn := w.drawn + 1 } (hr.heap_eq rfl)
        refine appendN_rel hr hN hce hs0 hz2 ha2 ha3 hb2 (fun base sLen sCap e1 hf => ?_) (fun base sLen sCap old e1 hf hsm hold => ?_) hs ha
        · subst e1; exact append_fits t0 t1 a0 a1 ht hu hd hok (hln w) hf ha1
        · subst e1; exact append_grows t0 t1 a0 a1 ht hu hd hok (hln w) hf hi hbytes hb0 hsm hz0 hold hb1
    · cases ha
theorem appendZ_rel (hr : HR N φ h w) (hN : N ≤ w.heap.size) {ts : Array TypeId} {args : Array Value} {ty t u e : TypeId} {k : IntKind} {s x v : AV} {cs cx : Value}
    (t0 : ts[0]? = some t) (t1 : ts[1]? = some u) (a0 : args[0]? = some cs) (a1 : args[1]? = some cx)
    (ht : P.underlying t = some (.slice e)) (hu : P.underlying u = some (.int k)) (hs : VR φ s cs) (hx : VR φ x cx) (ha : appendZ P e s x h = .val v h') :
    VOk P N φ w (Builtin.append_ ts ty args) v h' := by
  unfold appendZ at ha
  split at ha
  · rename_i info j n hi
    simp only [VR_int] at hx; subst hx
    split at ha
    · rename_i za hza hap
      simp only [Bool.and_eq_true] at hap
      obtain ⟨hce, hbytes, hb0, hs0, hok, z, hz2, hz0⟩ := appendOk_rel hi hap.1
      have hn := small_le hap.2
      obtain ⟨cz, q1, q2, q3, _⟩ := zeroA_rel (w := w) (φ := φ) hza
      have hcz : cz = z := by have := hz0 w; rw [q1] at this; cases this; rfl
      subst hcz
      have hrep : All2 (VR φ) (repl za.cells n) (Builtin.zeroCells cz.cells n).toList := range_repl q2.cells n
      have hone : ∀ a, a ∈ repl za.cells n → a.one = true := repl_one q3 n
      have hwrap : IntKind.i64.wrap (Int.ofNat n) = Int.ofNat n := by
        have := wrapF_eq .i64 (Int.ofNat n)
        rw [← this]
        simp only [wrapF]
        have e1 : Int.emod (Int.ofNat n) 18446744073709551616 = Int.ofNat n := by
          show (Int.ofNat n) % 18446744073709551616 = _
          exact Int.emod_eq_of_lt (by simp) (by show ((n : Nat) : Int) < _; omega)
        rw [e1, if_pos (by show ((n : Nat) : Int) < _; omega)]
      have hsz : (Builtin.zeroCells cz.cells n).size = n * info.size := by rw [zeroCells_size, hz2]
      have hempty : n * info.size = 0 → Builtin.zeroCells cz.cells n = #[] := fun e0 => by
        rw [e0] at hsz; exact Array.size_eq_zero_iff.1 hsz
      have hneg : ¬ (Int.ofNat n) < 0 := by simp
      have h4 : (Int.ofNat n).toNat = n := rfl
      have hbig : ¬ (Int.ofNat n * (info.bytes : Int) > 2 ^ 48) := by
        have : n * info.bytes ≤ 4194304 * 4194304 := Nat.mul_le_mul hn hbytes
        have : ((n * info.bytes : Nat) : Int) ≤ ((4194304 * 4194304 : Nat) : Int) := by exact_mod_cast this
        simp only [Int.ofNat_eq_natCast, Int.natCast_mul] at this ⊢
        omega
      refine appendN_rel hr hN hce hs0 hz2 hrep hone hrep (fun base sLen sCap e1 hf => ?_) (fun base sLen sCap old e1 hf hsm hold => ?_) hs ha
      · subst e1
        simp only [Builtin.append_, t0, t1, a0, a1, Sem.run_bind, run_underlying ht, run_underlying hu, Result.andThen_ok, sizeOf_run e hok, Sem.run_pure]
        simp only [if_true, Sem.run_bind, asInt, asIntOf, Sem.run_pure, Result.andThen_ok, hwrap, hneg, if_false, run_typeInfo hi, hbig, h4, hf, Bool.not_true, Bool.false_eq_true]
        by_cases e0 : n * P.cellsOf e = 0
        · simp only [e0, if_true, Sem.run_pure, Result.andThen_ok]
          rw [hempty (by rw [← hce]; exact e0)]
          cases base with
          | none => simp only [Sem.run_pure]
          | some a => simp only [Sem.run_pure, Sem.run_bind]
        · simp only [e0, if_false, Sem.run_bind, hz0, Sem.run_pure, Result.andThen_ok]
          cases base with
          | none => simp only [Sem.run_pure]
          | some a => simp only [Sem.run_pure, Sem.run_bind]
      · subst e1
        have g1 : ¬ (((sLen + n : Nat) : Int) > IntKind.i64.max ∧ (True ∨ info.bytes = 0)) := fun x => by
          have := x.1
          have hmax : IntKind.i64.max = 9223372036854775807 := rfl
          rw [hmax] at this
          omega
        have g2 : ¬ (Builtin.nextslicecap (sLen + n) sCap * info.bytes > 2 ^ 48) := by
          have := nextslicecap_le (need := sLen + n) (old := sCap) (by omega)
          have h2 : Builtin.nextslicecap (sLen + n) sCap * info.bytes ≤ 8388608 * 4194304 := Nat.mul_le_mul (by omega) hbytes
          omega
        have hq : (Question.appendCap (sLen + n) sCap e).forced = false := rfl
        refine ⟨(Question.appendCap (sLen + n) sCap e).cut (w.tape w.drawn (.appendCap (sLen + n) sCap e)),
          { w with heap := w.heap.push (.cells (old ++ Builtin.zeroCells cz.cells n ++ Builtin.zeroCells cz.cells ((Question.appendCap (sLen + n) sCap e).cut (w.tape w.drawn (.appendCap (sLen + n) sCap e)) - (sLen + n))) e), drawn := w.drawn + 1 }, ?_, ?_, rfl, rfl, rfl, rfl⟩
        · simp only [Question.cut]; have hp : 0 < 2 ^ 63 - (sLen + n) := by omega
          have := Nat.mod_lt (w.tape w.drawn (Question.appendCap (sLen + n) sCap e)) hp
          omega
        · simp only [Builtin.append_, t0, t1, a0, a1, Sem.run_bind, run_underlying ht, run_underlying hu, Result.andThen_ok, sizeOf_run e hok, Sem.run_pure]
          simp only [if_true, Sem.run_bind, asInt, asIntOf, Sem.run_pure, Result.andThen_ok, hwrap, hneg, if_false, run_typeInfo hi, hbig, h4, hf, Bool.not_true, Bool.false_eq_true, g1, g2, run_choose, hq, run_askRoom]
          rw [hold]
          simp only [Result.andThen_ok]
          by_cases e0 : n * P.cellsOf e = 0
          · simp only [e0, if_true, Sem.run_pure, Result.andThen_ok, hz0, newRow, Sem.run_bind, run_newObj]
            rw [hempty (by rw [← hce]; exact e0)]
          · simp only [e0, if_false, Sem.run_bind, hz0, Sem.run_pure, Result.andThen_ok, newRow, run_newObj]
    · cases ha
  · cases ha
end
end Go.AX

namespace Go.AX
open Go.RowKit
section
variable {P : Program} {N : NN} {φ : Phi} {h h' : H} {w : World}
theorem copyA_rel (hr : HR N φ h w) {ts : Array TypeId} {args : Array Value} {ty t e : TypeId} {s x v : AV} {cs cx : Value}
    (t0 : ts[0]? = some t) (a0 : args[0]? = some cs) (a1 : args[1]? = some cx)
    (ht : P.underlying t = some (.slice e)) (hs : VR φ s cs) (hx : VR φ x cx) (ha : copyA P e s x h = .val v h') :
    VOk P N φ w (Builtin.copy_ ts ty args) v h' := by
  unfold copyA at ha
  split at ha
  · rename_i dl n hdl hn
    simp only at ha
    split at ha
    · cases ha
    · rename_i l hl
      have hle : Nat.min n dl ≤ n := Nat.min_le_left _ _
      have hln := lenOfA_rel (P := P) (w := w) hx hn
      split at ha
      · rename_i hok
        simp only [VR_nilslice] at hs; subst hs
        simp only [lenOfA, Option.some.injEq] at hdl; subst hdl
        obtain ⟨arr, r1, r2, r3⟩ := srcA_rel (P := P) hr hx hn hle hl
        simp only [R.val.injEq] at ha; obtain ⟨rfl, rfl⟩ := ha
        refine ⟨φ, _, w, ?_, VR_int.2 rfl, φ.le_refl, hr, Below.refl _ _⟩
        simp only [Builtin.copy_, t0, a0, a1, Sem.run_bind, run_underlying ht, Result.andThen_ok, hln, sizeOf_run e hok, r1, Sem.run_pure]
        rfl
      · rename_i hok
        simp only [VR_slice0] at hs; obtain ⟨a, c, rfl⟩ := hs
        simp only [lenOfA, Option.some.injEq] at hdl; subst hdl
        obtain ⟨arr, r1, r2, r3⟩ := srcA_rel (P := P) hr hx hn hle hl
        have h0 : Nat.min n 0 = 0 := Nat.min_eq_right (Nat.zero_le _)
        have he : arr.toList = [] := by
          have hl' : l = [] := by
            rw [h0] at hl
            cases x with
            | nilslice => simp only [srcA, Option.some.injEq] at hl; exact hl.symm
            | slice0 => simp only [srcA, Option.some.injEq] at hl; exact hl.symm
            | slice b o len c =>
              simp only [srcA, Nat.zero_mul, H.row] at hl
              split at hl
              · simp only [loadRow_eq, H.loadCells, Option.some.injEq] at hl; exact hl.symm
              · cases hl
            | str s => simp only [srcA, List.take_zero, List.map_nil, Option.some.injEq] at hl; exact hl.symm
            | _ => simp [srcA] at hl
          subst hl'; exact All2.nil_left.1 r2
        simp only [R.val.injEq] at ha; obtain ⟨rfl, rfl⟩ := ha
        refine ⟨φ, _, w, ?_, VR_int.2 rfl, φ.le_refl, hr, Below.refl _ _⟩
        simp only [Builtin.copy_, t0, a0, a1, Sem.run_bind, run_underlying ht, Result.andThen_ok, hln, sizeOf_run e hok, r1, he, storeCells, Sem.run_pure]
        rfl
      · rename_i b o len c hok
        obtain ⟨L, cap, hL, rfl⟩ := slice_addr hs
        simp only [lenOfA, Option.some.injEq] at hdl; subst hdl
        obtain ⟨arr, r1, r2, r3⟩ := srcA_rel (P := P) hr hx hn hle hl
        split at ha
        · rename_i h1 hput
          cases ha
          obtain ⟨L', w', hL', p1, p2, p3, _, _⟩ := put_rel (P := P) hr hL hput r2
          rw [hL] at hL'; cases hL'
          refine ⟨φ, _, w', ?_, VR_int.2 rfl, φ.le_refl, p2, p3⟩
          simp only [Builtin.copy_, t0, a0, a1, Sem.run_bind, run_underlying ht, Result.andThen_ok, hln, sizeOf_run e hok, r1, p1, Sem.run_pure]
          rfl
        · cases ha
      · cases ha
  · cases ha
theorem bytesA0_rel : ∀ {l : List AV} {s : List Nat} {cl : List Value}, bytesA0 l = some s → All2 (VR φ) l cl →
    ∃ ns : List Int, cl = ns.map (Value.int .u8) ∧ s = ns.map (fun n => (UInt8.ofNat n.toNat).toNat)
  | [], s, cl, hb, hl => by
    rw [All2.nil_left] at hl; subst hl
    simp only [bytesA0, Option.some.injEq] at hb; subst hb
    exact ⟨[], rfl, rfl⟩
  | a :: l, s, cl, hb, hl => by
    obtain ⟨c, cr, rfl, h1, h2⟩ := All2.cons_left.1 hl
    unfold bytesA0 at hb
    split at hb
    · rename_i e; cases e
    · rename_i n l' e
      cases e
      split at hb
      · rename_i s' hs'
        cases hb
        obtain ⟨ns, rfl, rfl⟩ := bytesA0_rel hs' h2
        simp only [VR_int] at h1; subst h1
        exact ⟨(n : Int) :: ns, rfl, by simp⟩
      · cases hb
    · cases hb
theorem bytesA_rel {l : List AV} {s : List Nat} {cl : List Value} (hb : bytesA l = some s) (hl : All2 (VR φ) l cl) :
    ∃ ns : List Int, cl = ns.map (Value.int .u8) ∧ s = ns.map (fun n => (UInt8.ofNat n.toNat).toNat) := bytesA0_rel ((bytesA_eq l).symm.trans hb) hl
theorem foldl_push_bytes : ∀ (ns : List Int) (s : ByteArray), bytesOf (ns.foldl (fun r n => r.push (UInt8.ofNat n.toNat)) s) = bytesOf s ++ ns.map (fun n => (UInt8.ofNat n.toNat).toNat)
  | [], s => by simp
  | n :: ns, s => by
    simp only [List.foldl_cons, foldl_push_bytes ns, List.map_cons]
    simp [bytesOf, ByteArray.push]
theorem stringToBytes_rel (hr : HR N φ h w) (hN : N ≤ w.heap.size) {e : TypeId} {s : ByteArray} (hs63 : s.size < 9223372036854775808) :
    VOk P N φ w (Conv.stringToBytes e s) (.slice h.nx 0 (bytesOf s).length (.opn 0)) (h.grown none ⟨1, e + 1⟩ ((bytesOf s).map fun b => .int .u8 (Int.ofNat b))) := by
  have ls : (bytesOf s).length = s.size := by simp [bytesOf]
  have hq : (Question.appendCap s.size 0 e).forced = false := rfl
  obtain ⟨cap, hcap⟩ : ∃ cap, cap = (Question.appendCap s.size 0 e).cut (w.tape w.drawn (.appendCap s.size 0 e)) := ⟨_, rfl⟩
  have hle : s.size ≤ cap := by rw [hcap]; simp [Question.cut]
  have hc63 : cap ≤ 9223372036854775807 := by
    rw [hcap]; simp only [Question.cut]
    have hp : 0 < 2 ^ 63 - s.size := by omega
    have := Nat.mod_lt (w.tape w.drawn (Question.appendCap s.size 0 e)) hp
    omega
  obtain ⟨c, hc⟩ : ∃ c : Array Value, c = (s.data.map fun b => Value.int .u8 b.toNat) ++ Array.replicate (cap - s.size) (.int .u8 0) := ⟨_, rfl⟩
  have hcs : c.size = cap := by rw [hc]; simp; exact Nat.add_sub_cancel' (by simpa using hle)
  obtain ⟨w', hw'⟩ : ∃ w' : World, w' = { w with heap := w.heap.push (.cells c e (cap, cap + 1)), drawn := w.drawn + 1 } := ⟨_, rfl⟩
  have hrun : (Conv.stringToBytes e s).run P w = .ok (.slice (some ⟨w.heap.size, 0, none⟩) s.size cap) w' := by
    simp only [Conv.stringToBytes, Sem.run_bind, run_choose, hq, Bool.false_eq_true, if_false, Result.andThen_ok, ← hcap, ← hc, newRow, run_newObj, Sem.run_pure, markStringish, run_shape]
    have hshape : ({ w with heap := w.heap.push (.cells c e), drawn := w.drawn + 1 } : World).shape? w.heap.size = some (e, cap) := by
      simp [World.shape?, hcs]
    simp only [hshape, run_freeze, Result.andThen_ok]
    congr 1
    rw [hw']
    unfold World.freeze
    simp only [Nat.add_one_ne_zero, if_false]
    congr 1
    apply Array.ext_getElem?
    intro k
    rw [Array.getElem?_modify]
    by_cases q : w.heap.size = k
    · subst q; simp
    · rw [if_neg q, Array.getElem?_push, Array.getElem?_push, if_neg (fun x => q x.symm), if_neg (fun x => q x.symm)]
  have hl : All2 (VR φ) ((bytesOf s).map fun b => AV.int .u8 (Int.ofNat b)) (s.data.map fun b => Value.int .u8 b.toNat).toList := by
    rw [Array.toList_map, All2.map_left, All2.map_right, bytesOf, All2.map_left]
    exact All2.same (fun a => by simp) _
  have hg := grown_new hr hN (t := e) (esz := ⟨1, e + 1⟩) (K := cap) (rest := Array.replicate (cap - s.size) (.int .u8 0)) hl
    (by intro a ha; simp only [List.mem_map] at ha; obtain ⟨_, _, rfl⟩ := ha; rfl) (by simp; omega) (fun _ => rfl) (by simp) hc63 (cap, cap + 1) (.inr (by rw [Nat.mul_one])) w' (by rw [hw', hc]) none
  refine ⟨_, _, w', hrun, ?_, hg.2, hg.1, ?_⟩
  · rw [VR_sliceOp]
    exact ⟨_, Phi.ins_same _ _ _, by rw [ls]; simp, by rw [ls]; simpa using hle⟩
  · rw [hw']; exact below_eq hN rfl rfl rfl rfl
theorem convertA_rel (hr : HR N φ h w) (hN : N ≤ w.heap.size) {src dst : TypeId} {x v : AV} {cx : Value} (hx : VR φ x cx) (hc : convertA P src dst x h = .val v h') :
    VOk P N φ w (convert src dst cx) v h' := by
  unfold convertA at hc
  split at hc
  · rename_i d k k' n hs hd
    simp only [VR_int] at hx; subst hx
    simp only [forceInt_eq, wrapF_eq] at hc; cases hc
    refine Pu.vok hr ⟨_, ?_, VR_int.2 rfl⟩
    simp only [convert, Sem.run_bind, run_underlying hs, run_underlying hd, Result.andThen_ok]
    cases d <;> rfl
  · rename_i d s hs hd
    cases hc
    simp only [VR_str] at hx; obtain ⟨b, rfl, rfl⟩ := hx
    refine Pu.vok hr ⟨.string b, ?_, VR_str.2 ⟨_, rfl, rfl⟩⟩
    simp only [convert, Sem.run_bind, run_underlying hs, run_underlying hd, Result.andThen_ok]
    cases d <;> rfl
  · rename_i d e s hs hd
    simp only [VR_str] at hx; obtain ⟨b, rfl, rfl⟩ := hx
    split at hc
    · rename_i he hsm
      cases hc
      have hb63 : b.size < 9223372036854775808 := by
        have h1 := small_le hsm
        rw [lenL_eq] at h1
        have : (bytesOf b).length = b.size := by simp [bytesOf]
        omega
      have := stringToBytes_rel (P := P) hr hN (e := e) (s := b) hb63
      obtain ⟨φ', cv, w', h1, h2⟩ := this
      refine ⟨φ', cv, w', ?_, by rw [lenL_eq]; exact h2⟩
      simp only [convert, Sem.run_bind, run_underlying hs, run_underlying hd, Result.andThen_ok]
      cases d <;> simp only [run_underlying he, Result.andThen_ok, h1]
    · cases hc
  · rename_i e hs hd
    split at hc
    · rename_i he
      cases hc
      simp only [VR_nilslice] at hx; subst hx
      refine Pu.vok hr ⟨.string .empty, ?_, VR_str.2 ⟨_, rfl, rfl⟩⟩
      simp only [convert, Sem.run_bind, run_underlying hs, run_underlying hd, Result.andThen_ok, run_underlying he, Conv.bytesToString, Sem.run_pure]
    · cases hc
  · rename_i e hs hd
    split at hc
    · rename_i he
      cases hc
      simp only [VR_slice0] at hx; obtain ⟨a, c, rfl⟩ := hx
      refine Pu.vok hr ⟨.string .empty, ?_, VR_str.2 ⟨_, rfl, rfl⟩⟩
      rw [run_convert_bytes_string w src dst e _ _ _ hs he hd]
      exact run_bytesToString w a 0 c [] rfl
    · cases hc
  · rename_i e b o len c hs hd
    split at hc
    · rename_i he
      split at hc
      · rename_i l hrow
        split at hc
        · rename_i s hby
          cases hc
          obtain ⟨L, cap, hL, rfl⟩ := slice_addr hx
          obtain ⟨L', cl, hL', r1, r2, r3, r4⟩ := row_rel (P := P) hr hL hrow
          rw [hL] at hL'; cases hL'
          obtain ⟨ns, rfl, rfl⟩ := bytesA_rel hby r2
          refine Pu.vok hr ⟨.string (ns.foldl (fun r n => r.push (UInt8.ofNat n.toNat)) ByteArray.empty), ?_, VR_str.2 ⟨_, rfl, ?_⟩⟩
          · rw [run_convert_bytes_string w src dst e _ _ _ hs he hd]
            exact run_bytesToString w _ len cap ns r1
          · rw [foldl_push_bytes]; rfl
        · cases hc
      · cases hc
    · cases hc
  · cases hc
theorem lenA_rel (hr : HR N φ h w) {ts : Array TypeId} {args : Array Value} {ty t : TypeId} {x : AV} {cx : Value} {n : Nat} (t0 : ts[0]? = some t) (a0 : args[0]? = some cx)
    (hx : VR φ x cx) (hl : lenA P t x h = some n) : (Builtin.len_ ts ty args).run P w = .ok (.int .i64 (Int.ofNat n)) w := by
  unfold lenA at hl
  split at hl
  · rename_i s hu
    simp only [VR_str] at hx; obtain ⟨b, rfl, rfl⟩ := hx
    simp only [Option.some.injEq] at hl; subst hl
    have ls : (bytesOf b).length = b.size := by simp [bytesOf]
    simp only [Builtin.len_, t0, a0, Sem.run_bind, run_underlying hu, Result.andThen_ok, Sem.run_pure]; rw [lenL_eq, ls]; rfl
  · rename_i k e _ hu
    simp only [Option.some.injEq] at hl; subst hl
    simp only [Builtin.len_, t0, a0, Sem.run_bind, run_underlying hu, Result.andThen_ok, Sem.run_pure]; rfl
  · rename_i a _ hu
    split at hl
    · rename_i k e ha
      simp only [Option.some.injEq] at hl; subst hl
      simp only [Builtin.len_, t0, a0, Sem.run_bind, run_underlying hu, Result.andThen_ok, Sem.run_pure, run_underlying ha]; rfl
    · cases hl
  · rename_i e hu
    simp only [VR_nilslice] at hx; subst hx
    simp only [Option.some.injEq] at hl; subst hl
    simp only [Builtin.len_, t0, a0, Sem.run_bind, run_underlying hu, Result.andThen_ok, Sem.run_pure]; rfl
  · rename_i e hu
    simp only [VR_slice0] at hx; obtain ⟨a, c, rfl⟩ := hx
    simp only [Option.some.injEq] at hl; subst hl
    simp only [Builtin.len_, t0, a0, Sem.run_bind, run_underlying hu, Result.andThen_ok, Sem.run_pure]; rfl
  · rename_i e b o len c hu
    obtain ⟨a, cap, rfl⟩ := VR_slice_some hx
    simp only [Option.some.injEq] at hl; subst hl
    simp only [Builtin.len_, t0, a0, Sem.run_bind, run_underlying hu, Result.andThen_ok, Sem.run_pure]; rfl
  · rename_i k e hu
    simp only [VR_nilmap] at hx; subst hx
    simp only [Option.some.injEq] at hl; subst hl
    simp only [Builtin.len_, t0, a0, Sem.run_bind, run_underlying hu, Result.andThen_ok, Sem.run_pure]; rfl
  · rename_i k e r hu
    split at hl
    · rename_i es clock hb
      simp only [Option.some.injEq] at hl; subst hl
      simp only [VR_map] at hx; obtain ⟨L, hL, rfl⟩ := hx
      obtain ⟨hN, ces, g1, g2⟩ := hr.get hb hL
      have : es.length = ces.size := by rw [g2.length]; simp
      simp only [Builtin.len_, t0, a0, Sem.run_bind, run_underlying hu, Result.andThen_ok, getObj, Sem.run, g1, Sem.run_pure, this]; rfl
    · cases hl
  · cases hl
theorem capA_rel {ts : Array TypeId} {args : Array Value} {ty t : TypeId} {x : AV} {cx : Value} {n : Nat} (t0 : ts[0]? = some t) (a0 : args[0]? = some cx)
    (hx : VR φ x cx) (hl : capA P t x = some n) : (Builtin.cap_ ts ty args).run P w = .ok (.int .i64 (Int.ofNat n)) w := by
  unfold capA at hl
  split at hl
  · rename_i k e _ hu
    simp only [Option.some.injEq] at hl; subst hl
    simp only [Builtin.cap_, t0, a0, Sem.run_bind, run_underlying hu, Result.andThen_ok, Sem.run_pure]; rfl
  · rename_i e hu
    simp only [VR_nilslice] at hx; subst hx
    simp only [Option.some.injEq] at hl; subst hl
    simp only [Builtin.cap_, t0, a0, Sem.run_bind, run_underlying hu, Result.andThen_ok, Sem.run_pure]; rfl
  · rename_i e b o len c hu
    simp only [VR_sliceEx] at hx; obtain ⟨L, hL, rfl⟩ := hx
    simp only [Option.some.injEq] at hl; subst hl
    simp only [Builtin.cap_, t0, a0, Sem.run_bind, run_underlying hu, Result.andThen_ok, Sem.run_pure]; rfl
  · cases hl
theorem getObj_run {r : Nat} {o : Obj} (hg : w.heap[r]? = some o) (hc : ∀ c t f, o ≠ .cells c t f) : (getObj r).run P w = .ok o w := by
  cases o <;> first | exact absurd rfl (hc _ _ _) | simp only [getObj, Sem.run, hg]
theorem setObj_run {r : Nat} {o o' : Obj} (hg : w.heap[r]? = some o) (hc : ∀ c t f, o ≠ .cells c t f) : (setObj r o').run P w = .ok () (setB w r o') := by
  cases o <;> first | exact absurd rfl (hc _ _ _) | (simp only [setObj, Sem.run, hg]; rfl)
theorem liesAt_row {e : TypeId} (hc : P.cellsOf e = 1) (count off n : Nat) (hn : off + n ≤ count) : liesAt P P.depth e count off e n = true := by
  have hd : P.depth = (2 * (P.types.size + Made.depth) + 1) + 1 := rfl
  rw [hd]
  simp only [liesAt, Bool.or_eq_true]
  left
  rw [hd]
  simp [rowAt, hc, hn, sameLayout]
  exact .inl (Nat.mod_one off)
theorem run_loadBytesN : ∀ (l : List Int) (a : Addr) (acc : ByteArray), (∀ j x, l[j]? = some x → w.cell? (a.add j) = some (.int .u8 x)) →
    (loadBytes a acc l.length).run P w = .ok ⟨acc.data ++ (l.map fun n => UInt8.ofNat n.toNat).toArray⟩ w
  | [], a, acc, _ => by simp [loadBytes]
  | x :: l, a, acc, h => by
    have h0 : w.cell? a = some (.int .u8 x) := by
      have := h 0 x rfl
      simpa [Addr.add] using this
    have ih := run_loadBytesN l (a.add 1) (acc.push x.toNat.toUInt8) (fun j y hy => by
      have := h (j + 1) y (by simpa using hy)
      have e : (a.add 1).add j = a.add (j + 1) := by
        unfold Addr.add
        by_cases hj : j = 0
        · subst hj; simp
        · simp [hj]; omega
      rw [e]; exact this)
    simp only [List.length_cons, loadBytes, Sem.run_bind, run_load, h0, Result.andThen]
    rw [ih]
    congr 1
    apply ByteArray.ext
    simp [ByteArray.push]
theorem sliceDataA_rel {x v : AV} {cx : Value} {ts : Array TypeId} {ty : TypeId} (hx : VR φ x cx) (hu : sliceDataA x = some v) : Pu P φ w (Builtin.unsafeSliceData_ ts ty #[cx]) v := by
  unfold sliceDataA at hu
  split at hu
  · simp only [VR_nilslice] at hx; subst hx
    cases hu
    exact ⟨.pointer none, rfl, VR_nilptr.2 rfl⟩
  · rename_i b o len c
    split at hu
    · rename_i c'
      split at hu
      · cases hu
      · rename_i h0
        cases hu
        have h0 := Nat.ne_of_beq_eq_false h0
        simp only [VR_sliceEx] at hx; obtain ⟨L, hL, rfl⟩ := hx
        obtain ⟨k, rfl⟩ : ∃ k, c' = k + 1 := ⟨c' - 1, by omega⟩
        exact ⟨_, rfl, VR_ptr.2 ⟨L, hL, rfl⟩⟩
    · rename_i i
      split at hu
      · cases hu
      · rename_i h0
        cases hu
        have h0 := Nat.ne_of_beq_eq_false h0
        simp only [VR_sliceOp] at hx; obtain ⟨L, hL, rfl, hK⟩ := hx
        obtain ⟨k, hk⟩ : ∃ k, L.K - i = k + 1 := ⟨L.K - i - 1, by omega⟩
        rw [hk]
        exact ⟨_, rfl, VR_ptr.2 ⟨L, hL, rfl⟩⟩
  · cases hu
theorem freeze_get {a : Addr} {n : Nat} {c : Array Value} {t : TypeId} {frz : Nat × Nat} (hb : w.heap[a.block]? = some (.cells c t frz)) : ∃ frz', (w.freeze a n).heap[a.block]? = some (.cells c t frz') := by
  unfold World.freeze
  split
  · exact ⟨_, hb⟩
  · simp only [Array.getElem?_modify, if_true, hb, Option.map_some]
    exact ⟨_, rfl⟩
theorem freeze_other {a : Addr} {n k : Nat} (hk : k ≠ a.block) : (w.freeze a n).heap[k]? = w.heap[k]? := by
  unfold World.freeze
  split
  · rfl
  · simp only [Array.getElem?_modify]; rw [if_neg (fun e => hk e.symm)]
theorem freeze_below {a : Addr} {n : Nat} {B : Nat} (h : B ≤ a.block) : Below B w (w.freeze a n) := by
  unfold World.freeze
  split
  · exact Below.refl B w
  · exact ⟨rfl, rfl, rfl, by simp, fun k hk => by
      simp only [Array.getElem?_modify]
      rw [if_neg (by omega)]⟩
theorem unsafeStrA_rel (hr : HR N φ h w) {p v : AV} {cp : Value} {n : Nat} {ts : Array TypeId} {pt ty : TypeId} (t0 : ts[0]? = some pt) (hp : VR φ p cp) (hu : unsafeStrA P pt p n h = .val v h') :
    VOk P N φ w (Builtin.unsafeString_ ts ty #[cp, .int .i64 (Int.ofNat n)]) v h' := by
  unfold unsafeStrA at hu
  split at hu
  · split at hu
    · cases hu
      simp only [VR_nilptr] at hp; subst hp
      refine Pu.vok hr ⟨.string .empty, ?_, by rw [VR_str]; exact ⟨_, rfl, rfl⟩⟩
      have hdef : Builtin.unsafeString_ ts ty #[.pointer none, .int .i64 (Int.ofNat 0)] =
          (do
            let n ← asInt (.int .i64 0)
            let some pt := ts[0]? | stuck "unsafe.String: no argument types"
            if n < 0 then runtimePanic (.error "unsafe.String: len out of range")
            if n > IntKind.i64.max then unsupported (.unsafePointer "String: a length above the largest int")
            if n = 0 then pure (.string .empty)
            else runtimePanic (.error "unsafe.String: ptr is nil and len is not zero")) := rfl
      rw [hdef]
      have hmax : IntKind.i64.max = 9223372036854775807 := rfl
      simp [asInt, asIntOf, hmax, t0]
    · cases hu
      simp only [VR_ptr] at hp; obtain ⟨L, hL, rfl⟩ := hp
      refine Pu.vok hr ⟨.string .empty, ?_, by rw [VR_str]; exact ⟨_, rfl, rfl⟩⟩
      rename_i b o
      have hdef : Builtin.unsafeString_ ts ty #[.pointer (some ⟨L.B, L.base + o, none⟩), .int .i64 (Int.ofNat 0)] =
          (do
            let n ← asInt (.int .i64 0)
            let some pt := ts[0]? | stuck "unsafe.String: no argument types"
            if n < 0 then runtimePanic (.error "unsafe.String: len out of range")
            if n > IntKind.i64.max then unsupported (.unsafePointer "String: a length above the largest int")
            if n = 0 then pure (.string .empty)
            else if ← variablesAt ⟨L.B, L.base + o, none⟩ (← elemOf pt) n.toNat then do
              let s ← loadBytes ⟨L.B, L.base + o, none⟩ .empty n.toNat
              freeze ⟨L.B, L.base + o, none⟩ n.toNat
              pure (.string s)
            else unsupported (.unsafePointer "String: not so many bytes at ptr")) := rfl
      rw [hdef]
      have hmax : IntKind.i64.max = 9223372036854775807 := rfl
      simp [asInt, asIntOf, hmax, t0]
    · cases hu
  · rename_i m
    split at hu
    · rename_i b o e hpt
      simp only [VR_ptr] at hp; obtain ⟨L, hL, rfl⟩ := hp
      split at hu
      · rename_i mm cs esz hb
        split at hu
        · rename_i l hchk hl
          split at hu
          · rename_i s hs
            cases hu
            simp only [Bool.and_eq_true] at hchk
            obtain ⟨⟨⟨k1, k2⟩, k3⟩, k4⟩ := hchk
            have k1 := Nat.eq_of_beq_eq_true k1
            have k2 := Nat.eq_of_beq_eq_true k2
            have k4 := small_le k4
            have hor := hr.get hb hL
            have hor' := hor
            rw [loadRow_eq] at hl
            obtain ⟨cl, q1, q2, q3, q4⟩ := loadCells_rel hor _ _ _ hl
            obtain ⟨ns, rfl, rfl⟩ := bytesA_rel hs q1
            obtain ⟨c, t, frz, g1, g2, g3, g4, g5⟩ := hor
            obtain ⟨hN, _⟩ := g4 rfl
            have ht : t = e := by
              have := g5.2.2.1 (by rw [k1]; exact Nat.succ_ne_zero _)
              rw [k1] at this
              exact Nat.succ.inj this
            subst ht
            have hlen : ns.length = m + 1 := by simpa using q2
            have hbd : L.base + o + (m + 1) ≤ c.size := by
              have := q3 m
              have hm : m < ns.length := by omega
              have := this (.int .u8 ns[m]) (by rw [List.getElem?_map, List.getElem?_eq_getElem hm]; rfl)
              rw [cell_eq g1] at this
              have := (Array.getElem?_eq_some_iff.1 this).1
              omega
            have hlies := liesAt_row (P := P) k2 (c.size / P.cellsOf t) (L.base + o) (m + 1) (by rw [k2]; simpa using hbd)
            have hsh : w.shape? L.B = some (t, c.size) := by simp [World.shape?, g1]
            have hlb := run_loadBytesN (P := P) (w := w) ns ⟨L.B, L.base + o, none⟩ .empty (fun j x hj => by
              have := q3 j (.int .u8 x) (by rw [List.getElem?_map, hj]; rfl)
              by_cases h0 : j = 0
              · subst h0; simpa [Addr.add] using this
              · simpa [Addr.add, h0] using this)
            rw [hlen] at hlb
            have hdef : Builtin.unsafeString_ ts ty #[.pointer (some ⟨L.B, L.base + o, none⟩), .int .i64 (Int.ofNat (m + 1))] =
                (do
                  let n ← asInt (.int .i64 (Int.ofNat (m + 1)))
                  let some pt := ts[0]? | stuck "unsafe.String: no argument types"
                  if n < 0 then runtimePanic (.error "unsafe.String: len out of range")
                  if n > IntKind.i64.max then unsupported (.unsafePointer "String: a length above the largest int")
                  if n = 0 then pure (.string .empty)
                  else if ← variablesAt ⟨L.B, L.base + o, none⟩ (← elemOf pt) n.toNat then do
                    let s ← loadBytes ⟨L.B, L.base + o, none⟩ .empty n.toNat
                    freeze ⟨L.B, L.base + o, none⟩ n.toNat
                    pure (.string s)
                  else unsupported (.unsafePointer "String: not so many bytes at ptr")) := rfl
            obtain ⟨frz', hfz⟩ := freeze_get (w := w) (a := ⟨L.B, L.base + o, none⟩) (n := m + 1) g1
            refine ⟨φ, .string ⟨(ns.map fun n => UInt8.ofNat n.toNat).toArray⟩, w.freeze ⟨L.B, L.base + o, none⟩ (m + 1), ?_, ?_, φ.le_refl, ?_, freeze_below hN⟩
            · rw [hdef]
              have hmax : IntKind.i64.max = 9223372036854775807 := rfl
              have h1 : ¬ (Int.ofNat (m + 1)) < 0 := by show ¬ ((m + 1 : Nat) : Int) < 0; omega
              have h2 : ¬ (9223372036854775807 : Int) < Int.ofNat (m + 1) := by show ¬ (9223372036854775807 : Int) < ((m + 1 : Nat) : Int); omega
              have h3 : ¬ (Int.ofNat (m + 1)) = 0 := by show ¬ ((m + 1 : Nat) : Int) = 0; omega
              have h4 : (Int.ofNat (m + 1)).toNat = m + 1 := rfl
              simp only [asInt, asIntOf, Sem.run_bind, Sem.run_pure, Result.andThen_ok, t0, h1, h2, h3, hmax, if_false, gt_iff_lt, variablesAt, elemOf, run_underlying hpt, run_shape, h4]
              simp only [run_program, Result.andThen_ok, hsh, Sem.run_pure, hlies]
              simp only [Sem.run_bind, hlb, Result.andThen_ok, run_freeze, Sem.run_pure, if_true]
              simp
            · rw [VR_str]; exact ⟨_, rfl, by simp [bytesOf]⟩
            · exact hr.set hb hL _ (fun k hk => freeze_other hk) ⟨c, t, frz', hfz, g2, g3, fun e => (by cases e), g5.1, g5.2.1, g5.2.2.1, fun _ e => (by cases e)⟩
          · cases hu
        · cases hu
      · cases hu
    · cases hu
theorem seenAt_row {a : Addr} {c : Array Value} {t : TypeId} {frz : Nat × Nat} (hb : w.heap[a.block]? = some (.cells c t frz)) : (Conv.seenAt a).run P w = .ok a w := by
  have hsh : w.shape? a.block = some (t, c.size) := by simp [World.shape?, hb]
  simp only [Conv.seenAt, viewAt, Sem.run_bind, run_shape, hsh, Result.andThen_ok, Option.isSome_some, if_true, Sem.run_pure]
theorem toUnsafeA_rel (hr : HR N φ h w) {src dst t : TypeId} {x v : AV} {cx : Value} (hs : P.underlying src = some (.pointer t)) (hd : P.underlying dst = some .unsafePointer) (hx : VR φ x cx) (hu : toUnsafeA P t x h = .val v h') :
    VOk P N φ w (convert src dst cx) v h' := by
  unfold toUnsafeA at hu
  split at hu
  · cases hu
    simp only [VR_nilptr] at hx; subst hx
    refine Pu.vok hr ⟨.pointer none, ?_, VR_nilptr.2 rfl⟩
    simp only [convert, Sem.run_bind, run_underlying hs, run_underlying hd, Result.andThen_ok, Conv.unsafePointer, Sem.run_pure]
  · rename_i b o
    simp only [VR_ptr] at hx; obtain ⟨L, hL, rfl⟩ := hx
    split at hu
    · rename_i n cs esz ro hb
      split at hu
      · rename_i hc
        cases hu
        simp only [Bool.and_eq_true] at hc
        obtain ⟨⟨c1, c2⟩, c3⟩ := hc
        have c1 : o < n := Nat.le_of_ble_eq_true c1
        have c3 := Nat.le_of_ble_eq_true c3
        have c3' : P.cellsOf t ≠ 0 := by omega
        obtain ⟨c, ty, frz, g1, g2, g3, g4, g5⟩ := hr.get hb hL
        refine Pu.vok hr ⟨.pointer (some ⟨L.B, L.base + o, none⟩), ?_, VR_ptr.2 ⟨L, hL, rfl⟩⟩
        have hsh : w.shape? L.B = some (ty, c.size) := by simp [World.shape?, g1]
        have hseen := seenAt_row (P := P) (w := w) (a := ⟨L.B, L.base + o, none⟩) g1
        have hlt : ¬ (c.size ≤ L.base + o) := by omega
        simp only [convert, Sem.run_bind, run_underlying hs, run_underlying hd, Result.andThen_ok, Conv.unsafePointer, hseen, cellsIn, run_shape, hsh, Sem.run_pure, sizeOf_run t c2]
        simp [hlt, c3']
      · cases hu
    · cases hu
  · cases hu
theorem fromUnsafeA_rel (hr : HR N φ h w) {src dst u : TypeId} {x v : AV} {cx : Value} (hs : P.underlying src = some .unsafePointer) (hd : P.underlying dst = some (.pointer u)) (hx : VR φ x cx) (hu : fromUnsafeA P u x h = .val v h') :
    VOk P N φ w (convert src dst cx) v h' := by
  unfold fromUnsafeA at hu
  split at hu
  · cases hu
    simp only [VR_nilptr] at hx; subst hx
    refine Pu.vok hr ⟨.pointer none, ?_, VR_nilptr.2 rfl⟩
    simp only [convert, Sem.run_bind, run_underlying hs, run_underlying hd, Result.andThen_ok, Conv.unsafePointer, Sem.run_pure]
  · rename_i b
    simp only [VR_ptr] at hx; obtain ⟨L, hL, rfl⟩ := hx
    split at hu
    · rename_i n cs ty ro hb
      split at hu
      · rename_i hc
        cases hu
        simp only [Bool.and_eq_true] at hc
        obtain ⟨⟨⟨c1, c2⟩, c3⟩, c4⟩ := hc
        have c1 := Nat.eq_of_beq_eq_true c1
        have c3 := Nat.le_of_ble_eq_true c3
        have c4 := Nat.le_of_ble_eq_true c4
        obtain ⟨c, t, frz, g1, g2, g3, g4, g5⟩ := hr.get hb hL
        have hbase := g5.2.1 rfl
        have ht : t = u := by
          have := g5.2.2.1 (by rw [c1]; exact Nat.succ_ne_zero _)
          rw [c1] at this
          exact Nat.succ.inj this
        subst ht
        refine Pu.vok hr ⟨.pointer (some ⟨L.B, L.base + 0, none⟩), ?_, VR_ptr.2 ⟨L, hL, rfl⟩⟩
        have hsh : w.shape? L.B = some (t, c.size) := by simp [World.shape?, g1]
        have hseen := seenAt_row (P := P) (w := w) (a := ⟨L.B, L.base + 0, none⟩) g1
        have hcnt : 1 ≤ c.size / P.cellsOf t := by
          rw [Nat.le_div_iff_mul_le (by omega)]; omega
        have hlies : liesAt P P.depth t (c.size / P.cellsOf t) (L.base + 0) t 1 = true := by
          have hdp : P.depth = (2 * (P.types.size + Made.depth) + 1) + 1 := rfl
          rw [hdp]
          simp only [liesAt, Bool.or_eq_true]
          left
          rw [hdp, hbase]
          have c3' : P.cellsOf t ≠ 0 := by omega
          simp [rowAt, c3', sameLayout, hcnt]
        have c3' : P.cellsOf t ≠ 0 := by omega
        simp only [convert, Sem.run_bind, run_underlying hs, run_underlying hd, Result.andThen_ok, Conv.unsafePointer, hseen, sizeOf_run t c2, variablesAt, run_program, run_shape, hsh, Sem.run_pure, hlies]
        simp [c3']
      · cases hu
    · cases hu
  · cases hu
end
end Go.AX

namespace Go.AX
open Go.RowKit
section
variable {P : Program} {N : NN} {φ : Phi} {h h' : H} {w : World}
theorem keyFields_rel {kv : TypeId → AV → Bool} {D : Nat} {b : Bool} {cs : List AV} {ccs : Array Value} (hcs : All2 (VR φ) cs ccs.toList)
    (ih : ∀ (t : TypeId) (k : AV) (ck : Value), kv t k = true → VR φ k ck → (Instr.checkKey b D t ck).run P w = .ok () w) : ∀ (fs : List Field), keyFields P kv cs fs = true →
    (forIn fs PUnit.unit (fun f _ => do
      if f.name ≠ "_" then Instr.checkKey b D f.type (← part f.type ccs f.offset)
      pure (ForInStep.yield PUnit.unit)) : Sem PUnit).run P w = .ok PUnit.unit w
  | [], _ => rfl
  | f :: fs, h => by
    simp only [keyFields] at h
    split at h
    · rename_i v hn hok hp
      split at h
      · rename_i hk
        have ihf := keyFields_rel hcs ih fs h
        obtain ⟨cv, h1, h2⟩ := partA_rel (w := w) hok hcs hp
        have hn' : f.name ≠ "_" := by simpa using hn
        simp only [List.forIn_cons, ne_eq, hn', not_false_eq_true, if_true, Sem.run_bind, h1, ih _ _ _ hk h2, Result.andThen_ok, Sem.run_pure]
        exact ihf
      · cases h
    · cases h
theorem keyV_rel : ∀ (d D : Nat), d ≤ D → ∀ (b : Bool) (t : TypeId) (k : AV) (ck : Value), keyV P d t k = true → VR φ k ck → (Instr.checkKey b D t ck).run P w = .ok () w
  | 0, _, _, _, _, _, _, h, _ => by cases h
  | d + 1, 0, hD, _, _, _, _, _, _ => by omega
  | d + 1, D + 1, hD, b, t, k, ck, h, hk => by
    have ih := keyV_rel d D (by omega) b
    simp only [keyV] at h
    split at h
    · rename_i hu; simp only [VR_int] at hk; subst hk; simp only [Instr.checkKey, Sem.run_bind, run_underlying hu, Result.andThen_ok, Sem.run_pure]
    · rename_i hu; simp only [VR_str] at hk; obtain ⟨s, rfl, _⟩ := hk; simp only [Instr.checkKey, Sem.run_bind, run_underlying hu, Result.andThen_ok, Sem.run_pure]
    · rename_i hu; simp only [VR_bool] at hk; subst hk; simp only [Instr.checkKey, Sem.run_bind, run_underlying hu, Result.andThen_ok, Sem.run_pure]
    · rename_i fs cs hu
      simp only [VR_agg] at hk; obtain ⟨a, rfl, ha⟩ := hk
      have := keyFields_rel ha (fun t k ck => ih t k ck) fs.toList h
      simp only [Instr.checkKey, Sem.run_bind, run_underlying hu, Result.andThen_ok]
      rw [← Array.forIn_toList, this]; rfl
    · cases h
def FindR (φ : Phi) : Option (Nat × AV) → Option (Nat × Value) → Prop
  | none, r => r = none
  | some (i, v), r => ∃ cv, r = some (i, cv) ∧ VR φ v cv
theorem findAsking_rel {t : TypeId} {k : AV} {ck : Value} (hk : VR φ k ck) : ∀ (es : List (AV × AV × Nat)) (ces : List MapEntry) (i : Nat) (r : Option (Nat × AV)),
    findA P t k es i = some r → All2 (EntR φ) es ces → ∃ cr, (Instr.findAsking t ck ces i).run P w = .ok cr w ∧ FindR φ r cr
  | [], ces, i, r, h, he => by
    rw [All2.nil_left] at he; subst he
    simp only [findA, Option.some.injEq] at h; subst h
    exact ⟨none, rfl, rfl⟩
  | e :: es, ces, i, r, h, he => by
    obtain ⟨ce, cr, rfl, ⟨h1, h2, _⟩, hr⟩ := All2.cons_left.1 he
    simp only [findA] at h
    split at h
    · rename_i hq
      cases h
      have : (Op.equal t ck ce.key).run P w = .ok true w := eqA_rel 4 10000 (by omega) t k e.1 ck ce.key true hq hk h1
      refine ⟨some (i, ce.val), ?_, ce.val, rfl, h2⟩
      simp only [Instr.findAsking, Sem.run_bind, this, Result.andThen_ok, if_true, Sem.run_pure]
    · rename_i hq
      have : (Op.equal t ck ce.key).run P w = .ok false w := eqA_rel 4 10000 (by omega) t k e.1 ck ce.key false hq hk h1
      obtain ⟨r', h3, h4⟩ := findAsking_rel hk es cr (i + 1) r h hr
      refine ⟨r', ?_, h4⟩
      simp only [Instr.findAsking, Sem.run_bind, this, Result.andThen_ok, Bool.false_eq_true, if_false, h3]
    · cases h
theorem sameNow_rel {t : TypeId} {d : TypeDesc} (hu : P.underlying t = some d) {k e : AV} {ck ce : Value} {q r : Bool} (hk : VR φ k ck) (he : VR φ e ce) (ha : eqA P 4 t k e = some q)
    (hs : Instr.sameNow d ck ce = some r) : r = q := by
  unfold Instr.sameNow at hs
  split at hs
  · have := VR_int_inv hk; subst this
    have := VR_int_inv he; subst this
    split at hs
    · rename_i e; subst e
      simp only [Option.some.injEq] at hs; subst hs
      simp only [eqA, hu] at ha
      split at ha
      · simp only [Option.some.injEq] at ha; exact ha
      · cases ha
    · cases hs
  · have := VR_string_inv hk; subst this
    have := VR_string_inv he; subst this
    simp only [Option.some.injEq] at hs; subst hs
    simp only [eqA, hu, Option.some.injEq] at ha; subst ha
    rw [listEqB_eq, bytesOf_eq, bytesOf_eq, map_toNat_beq, beq_toListBytes]
  · simp only [Option.some.injEq] at hs; subst hs
    have hk' : ∃ b, k = .bool b := by
      cases k with
      | slice b o len c => obtain ⟨a, c, e⟩ := VR_slice_some hk; cases e
      | bool b => exact ⟨b, rfl⟩
      | _ => simp at hk
    have he' : ∃ b, e = .bool b := by
      cases e with
      | slice b o len c => obtain ⟨a, c, e⟩ := VR_slice_some he; cases e
      | bool b => exact ⟨b, rfl⟩
      | _ => simp at he
    obtain ⟨x, rfl⟩ := hk'
    obtain ⟨y, rfl⟩ := he'
    simp only [VR_bool, Value.bool.injEq] at hk he; subst hk; subst he
    simp only [eqA, hu, Option.some.injEq] at ha; exact ha
  · cases hs
theorem findNow_rel {t : TypeId} {d : TypeDesc} (hu : P.underlying t = some d) {k : AV} {ck : Value} (hk : VR φ k ck) : ∀ (es : List (AV × AV × Nat)) (ces : List MapEntry) (i : Nat) (r : Option (Nat × AV)) (cr : Option (Nat × Value)),
    findA P t k es i = some r → All2 (EntR φ) es ces → Instr.findNow d ck ces i = some cr → FindR φ r cr
  | [], ces, i, r, cr, h, he, hn => by
    rw [All2.nil_left] at he; subst he
    simp only [findA, Option.some.injEq] at h; subst h
    simp only [Instr.findNow, Option.some.injEq] at hn; subst hn
    rfl
  | e :: es, ces, i, r, cr, h, he, hn => by
    obtain ⟨ce, cr', rfl, ⟨h1, h2, _⟩, hr⟩ := All2.cons_left.1 he
    simp only [findA] at h
    simp only [Instr.findNow] at hn
    split at h
    · rename_i hq
      cases h
      split at hn
      · simp only [Option.some.injEq] at hn; subst hn; exact ⟨_, rfl, h2⟩
      · rename_i hs
        have := sameNow_rel hu hk h1 hq hs; cases this
      · cases hn
    · rename_i hq
      split at hn
      · rename_i hs
        have := sameNow_rel hu hk h1 hq hs; cases this
      · exact findNow_rel hu hk es cr' (i + 1) r cr h hr hn
      · cases hn
    · cases h
theorem findKey_rel {t : TypeId} {k : AV} {ck : Value} (ht : okT P t = true) (hk : VR φ k ck) {es : List (AV × AV × Nat)} {ces : List MapEntry} {r : Option (Nat × AV)}
    (h : findA P t k es 0 = some r) (he : All2 (EntR φ) es ces) : ∃ cr, (Instr.findKey t ck ces).run P w = .ok cr w ∧ FindR φ r cr := by
  unfold okT at ht
  cases hu : P.underlying t with
  | none => rw [hu] at ht; cases ht
  | some d =>
    cases hn : Instr.findNow d ck ces 0 with
    | some cr => exact ⟨cr, by simp only [Instr.findKey, Sem.run_bind, run_underlying hu, Result.andThen_ok, hn, Sem.run_pure], findNow_rel hu hk es ces 0 r cr h he hn⟩
    | none =>
      obtain ⟨cr, h1, h2⟩ := findAsking_rel (w := w) hk es ces 0 r h he
      exact ⟨cr, by simp only [Instr.findKey, Sem.run_bind, run_underlying hu, Result.andThen_ok, hn, h1], h2⟩
theorem keyV_ok {d : Nat} {t : TypeId} {k : AV} (h : keyV P d t k = true) : okT P t = true := by
  cases d with
  | zero => cases h
  | succ d =>
    unfold okT
    cases hu : P.underlying t with
    | none => simp only [keyV, hu] at h; cases h
    | some _ => rfl
theorem lookupA_rel (hr : HR N φ h w) {t : TypeId} {x k v : AV} {cx ck : Value} {ok : Bool} (hx : VR φ x cx) (hk : VR φ k ck) (hl : lookupA P t x k ok h = some v) :
    Pu P φ w (Instr.lookup t cx ck ok) v := by
  unfold lookupA at hl
  split at hl
  · rename_i kt elem hu
    split at hl
    · cases hl
    · rename_i hkv
      simp only at hl
      split at hl
      · cases hl
      · rename_i es hes
        have hces : ∃ ces : Array MapEntry, (cx = .map none ∧ ces = #[] ∨ ∃ r clock, cx = .map (some r) ∧ w.heap[r]? = some (.map ces clock)) ∧ All2 (EntR φ) es ces.toList := by
          split at hes
          · simp only [VR_nilmap] at hx; subst hx
            cases hes
            exact ⟨#[], .inl ⟨rfl, rfl⟩, trivial⟩
          · rename_i r
            simp only [VR_map] at hx; obtain ⟨L, hL, rfl⟩ := hx
            split at hes
            · rename_i es' clock hb
              cases hes
              obtain ⟨hN, ces, g1, g2⟩ := hr.get hb hL
              exact ⟨ces, .inr ⟨_, _, rfl, g1⟩, g2⟩
            · cases hes
          · cases hes
        obtain ⟨ces, c1, c2⟩ := hces
        have hck := keyV_rel (φ := φ) (P := P) (w := w) 4 10000 (by omega) ces.isEmpty kt k ck hkv hk
        have hok := keyV_ok hkv
        split at hl
        · cases hl
        · rename_i i v' hf
          cases hl
          obtain ⟨cr, f1, cv, rfl, f2⟩ := findKey_rel (w := w) hok hk hf c2
          refine ⟨if ok then .tuple #[cv, .bool true] else cv, ?_, ?_⟩
          · rcases c1 with ⟨rfl, rfl⟩ | ⟨r, clock, rfl, hg⟩
            · simp only [Instr.lookup, Sem.run_bind, run_underlying hu, Result.andThen_ok, hck, f1, Sem.run_pure]
            · simp only [Instr.lookup, Sem.run_bind, run_underlying hu, Result.andThen_ok, getObj_run hg (fun _ _ _ => by simp), hck, f1, Sem.run_pure]
          · cases ok
            · exact f2
            · simp [All2, f2]
        · rename_i hf
          obtain ⟨cr, f1, f2⟩ := findKey_rel (w := w) hok hk hf c2
          simp only [FindR] at f2; subst f2
          split at hl
          · rename_i z hz
            cases hl
            obtain ⟨cz, z1, z2, _⟩ := zeroA_rel (w := w) (φ := φ) hz
            refine ⟨if ok then .tuple #[cz, .bool false] else cz, ?_, ?_⟩
            · rcases c1 with ⟨rfl, rfl⟩ | ⟨r, clock, rfl, hg⟩
              · simp only [Instr.lookup, Sem.run_bind, run_underlying hu, Result.andThen_ok, hck, f1, z1, Sem.run_pure]
              · simp only [Instr.lookup, Sem.run_bind, run_underlying hu, Result.andThen_ok, getObj_run hg (fun _ _ _ => by simp), hck, f1, z1, Sem.run_pure]
            · cases ok
              · exact z2
              · simp [All2, z2]
          · cases hl
  · cases hl
theorem same1_eq {a b : AV} (h : same1 a b = true) : a = b ∧ ∀ (c d : Value), VR φ a c → VR φ b d → ∀ n, Instr.sameBits n c d = true := by
  unfold same1 at h
  split at h
  · have e := eq_of_beq h
    subst e
    refine ⟨rfl, fun c d hc hd n => ?_⟩
    simp only [VR_bool] at hc hd; subst hc; subst hd
    cases n <;> simp [Instr.sameBits]
  · simp only [Bool.and_eq_true] at h
    have e1 := eqB_eq h.1
    have e2 := eq_of_beq h.2
    subst e1; subst e2
    refine ⟨rfl, fun c d hc hd n => ?_⟩
    simp only [VR_int] at hc hd; subst hc; subst hd
    cases n <;> simp [Instr.sameBits]
  · rw [listEqB_eq] at h
    have e := eq_of_beq h
    subst e
    refine ⟨rfl, fun c d hc hd n => ?_⟩
    simp only [VR_str] at hc hd; obtain ⟨s, rfl, hs⟩ := hc; obtain ⟨u, rfl, hu⟩ := hd
    have : (s == u) = true := by
      rw [beq_toListBytes, ← map_toNat_beq, ← bytesOf_eq, ← bytesOf_eq, hs, hu]; simp
    cases n <;> simpa [Instr.sameBits] using this
  · cases h
theorem sames_eq : ∀ {a b : List AV}, sames a b = true → a = b ∧ ∀ (c d : List Value), All2 (VR φ) a c → All2 (VR φ) b d → ∀ n, c.length = d.length ∧ ((c.zip d).all fun (x, y) => Instr.sameBits n x y) = true
  | [], [], _ => ⟨rfl, fun c d hc hd n => by rw [All2.nil_left] at hc hd; subst hc; subst hd; exact ⟨rfl, rfl⟩⟩
  | a :: l, b :: r, h => by
    simp only [sames, Bool.and_eq_true] at h
    obtain ⟨e1, f1⟩ := same1_eq (φ := φ) h.1
    obtain ⟨e2, f2⟩ := sames_eq h.2
    subst e1; subst e2
    refine ⟨rfl, fun c d hc hd n => ?_⟩
    obtain ⟨c1, cr, rfl, hc1, hcr⟩ := All2.cons_left.1 hc
    obtain ⟨d1, dr, rfl, hd1, hdr⟩ := All2.cons_left.1 hd
    obtain ⟨g1, g2⟩ := f2 cr dr hcr hdr n
    exact ⟨by simp [g1], by simp only [List.zip_cons_cons, List.all_cons, Bool.and_eq_true]; exact ⟨f1 c1 d1 hc1 hd1 n, g2⟩⟩
  | [], _ :: _, h => by simp [sames] at h
  | _ :: _, [], h => by simp [sames] at h
theorem sameV_eq {a b : AV} {c d : Value} (h : sameV a b = true) (hc : VR φ a c) (hd : VR φ b d) : a = b ∧ Instr.sameBits 10000 c d = true := by
  unfold sameV at h
  split at h
  · obtain ⟨e, f⟩ := sames_eq (φ := φ) h
    subst e
    simp only [VR_agg] at hc hd; obtain ⟨x, rfl, hx⟩ := hc; obtain ⟨y, rfl, hy⟩ := hd
    obtain ⟨g1, g2⟩ := f _ _ hx hy 9999
    refine ⟨rfl, ?_⟩
    have g1' : x.size = y.size := by simpa using g1
    simp only [Instr.sameBits, g1', beq_self_eq_true, Bool.true_and]
    exact g2
  · obtain ⟨e, f⟩ := same1_eq (φ := φ) h
    exact ⟨e, f _ _ hc hd _⟩
theorem setVal_rel {v : AV} {cv : Value} (hv : VR φ v cv) {key : Value} : ∀ (es : List (AV × AV × Nat)) (ces : List MapEntry) (i : Nat), All2 (EntR φ) es ces →
    (∀ e, es[i]? = some e → VR φ e.1 key) → All2 (EntR φ) (setVal v es i) (ces.modify i fun e => { e with key, val := cv })
  | [], ces, i, he, _ => by rw [All2.nil_left] at he; subst he; simp [setVal]
  | e :: es, ces, 0, he, hk => by
    obtain ⟨ce, cr, rfl, ⟨h1, h2, h3⟩, hr⟩ := All2.cons_left.1 he
    exact ⟨⟨hk e rfl, hv, h3⟩, hr⟩
  | e :: es, ces, i + 1, he, hk => by
    obtain ⟨ce, cr, rfl, h1, hr⟩ := All2.cons_left.1 he
    exact ⟨h1, setVal_rel hv es cr i hr (fun x hx => hk x (by simpa using hx))⟩
theorem map_or_set (hr : HR N φ h w) {b : Nat} {es : List (AV × AV × Nat)} {clock : Nat} {L : Loc} (hb : h.t.get b = some (.map es clock)) (hL : φ b = some L)
    {es' : List (AV × AV × Nat)} {ces' : Array MapEntry} (clock' : Nat) (he : All2 (EntR φ) es' ces'.toList) :
    HR N φ { h with t := h.t.set b (some (.map es' clock')) } (setB w L.B (.map ces' clock')) ∧ Below N w (setB w L.B (.map ces' clock')) := by
  have hor := hr.get hb hL
  have hlt := hor.lt
  obtain ⟨hN, ces, g1, g2⟩ := hor
  exact ⟨hr.set hb hL _ (fun k hk => by rw [setB_get hlt, if_neg hk]) ⟨hN, ces', by rw [setB_get hlt, if_pos rfl], he⟩, below_setB _ hN⟩
theorem updateA_rel (hr : HR N φ h w) {t : TypeId} {x k v : AV} {cx ck cv : Value} (hx : VR φ x cx) (hk : VR φ k ck) (hv : VR φ v cv) (hu : updateA P t x k v h = some h') :
    UOk P N φ w (Instr.mapUpdate t cx ck cv) h' := by
  unfold updateA at hu
  split at hu
  · rename_i kt elem r hun
    simp only [VR_map] at hx; obtain ⟨L, hL, rfl⟩ := hx
    split at hu
    · rename_i es clock hkv hb
      obtain ⟨hN, ces, g1, g2⟩ := hr.get hb hL
      have hck := keyV_rel (φ := φ) (P := P) (w := w) 4 10000 (by omega) false kt k ck hkv hk
      have hok := keyV_ok hkv
      split at hu
      · cases hu
      · rename_i i v' hf
        split at hu
        · rename_i hs
          cases hu
          obtain ⟨cr, f1, cv', rfl, f2⟩ := findKey_rel (w := w) hok hk hf g2
          unfold sameAt at hs
          split at hs
          · rename_i e he
            obtain ⟨ce, hce, e1, e2, e3⟩ := g2.get he
            rw [Array.getElem?_toList] at hce
            obtain ⟨q1, q2⟩ := sameV_eq hs e1 hk
            have hm := map_or_set hr hb hL (es' := setVal v es i) (ces' := ces.modify i fun e => { e with key := ck, val := cv }) clock
              (by rw [Array.toList_modify]; exact setVal_rel hv es ces.toList i g2 (fun e' he' => by rw [he] at he'; cases he'; rw [q1]; exact hk))
            refine ⟨φ, _, ?_, φ.le_refl, hm.1, hm.2⟩
            have hne : ∀ c t f, (Obj.map ces clock) ≠ .cells c t f := fun _ _ _ => by simp
            simp only [Instr.mapUpdate, Sem.run_bind, run_underlying hun, Result.andThen_ok, getObj_run g1 hne, hck, f1, hce, Option.map_some, Option.getD_some, Instr.keyThatStays, q2, if_true, Sem.run_pure, setObj_run g1 hne]
          · cases hs
        · cases hu
      · rename_i hf
        cases hu
        obtain ⟨cr, f1, f2⟩ := findKey_rel (w := w) hok hk hf g2
        simp only [FindR] at f2; subst f2
        have hm := map_or_set hr hb hL (es' := es ++ [(k, v, clock)]) (ces' := ces.push { key := ck, val := cv, born := clock }) (clock + 1)
          (by rw [Array.toList_push]; exact g2.append ⟨⟨hk, hv, rfl⟩, trivial⟩)
        refine ⟨φ, _, ?_, φ.le_refl, hm.1, hm.2⟩
        have hne : ∀ c t f, (Obj.map ces clock) ≠ .cells c t f := fun _ _ _ => by simp
        simp only [Instr.mapUpdate, Sem.run_bind, run_underlying hun, Result.andThen_ok, getObj_run g1 hne, hck, f1, setObj_run g1 hne]
    · cases hu
  · cases hu
theorem eraseIdx_rel : ∀ (es : List (AV × AV × Nat)) (ces : List MapEntry) (i : Nat), All2 (EntR φ) es ces → All2 (EntR φ) (es.eraseIdx i) (ces.eraseIdx i)
  | [], ces, i, he => by rw [All2.nil_left] at he; subst he; simp
  | e :: es, ces, 0, he => by obtain ⟨ce, cr, rfl, h1, hr⟩ := All2.cons_left.1 he; exact hr
  | e :: es, ces, i + 1, he => by obtain ⟨ce, cr, rfl, h1, hr⟩ := All2.cons_left.1 he; exact ⟨h1, eraseIdx_rel es cr i hr⟩
theorem clearA_rel (hr : HR N φ h w) {ts : Array TypeId} {args : Array Value} {ty t : TypeId} {x : AV} {cx : Value} (t0 : ts[0]? = some t) (a0 : args[0]? = some cx)
    (hx : VR φ x cx) (hu : clearA P t x h = some h') :
    VOk P N φ w (Builtin.clear_ ts ty args) und h' := by
  have hund : ∀ ψ, VR ψ und (.tuple #[]) := fun ψ => VR_und
  unfold clearA at hu
  split at hu
  · rename_i kt elem hun
    cases hu
    simp only [VR_nilmap] at hx; subst hx
    refine ⟨φ, .tuple #[], w, ?_, hund φ, φ.le_refl, hr, Below.refl _ _⟩
    simp only [Builtin.clear_, t0, a0, Sem.run_bind, run_underlying hun, Result.andThen_ok, Sem.run_pure]
  · rename_i kt elem r hun
    simp only [VR_map] at hx; obtain ⟨L, hL, rfl⟩ := hx
    split at hu
    · rename_i es clock hb
      cases hu
      obtain ⟨hN, ces, g1, g2⟩ := hr.get hb hL
      have hne : ∀ c t f, (Obj.map ces clock) ≠ .cells c t f := fun _ _ _ => by simp
      have hm := map_or_set hr hb hL (es' := []) (ces' := #[]) clock (by simp [All2])
      refine ⟨φ, .tuple #[], _, ?_, hund φ, φ.le_refl, hm.1, hm.2⟩
      simp only [Builtin.clear_, t0, a0, Sem.run_bind, run_underlying hun, Result.andThen_ok, getObj_run g1 hne, setObj_run g1 hne, Sem.run_pure]
    · cases hu
  · rename_i e hun
    cases hu
    simp only [VR_nilslice] at hx; subst hx
    refine ⟨φ, .tuple #[], w, ?_, hund φ, φ.le_refl, hr, Below.refl _ _⟩
    simp only [Builtin.clear_, t0, a0, Sem.run_bind, run_underlying hun, Result.andThen_ok, Sem.run_pure]
  · rename_i e hun
    cases hu
    simp only [VR_slice0] at hx; obtain ⟨a, c, rfl⟩ := hx
    refine ⟨φ, .tuple #[], w, ?_, hund φ, φ.le_refl, hr, Below.refl _ _⟩
    simp only [Builtin.clear_, t0, a0, Sem.run_bind, run_underlying hun, Result.andThen_ok, Sem.run_pure]
  · rename_i e b o len cap hun
    obtain ⟨L, c, hL, rfl⟩ := slice_addr hx
    split at hu
    · cases hu
      refine ⟨φ, .tuple #[], w, ?_, hund φ, φ.le_refl, hr, Below.refl _ _⟩
      simp only [Builtin.clear_, t0, a0, Sem.run_bind, run_underlying hun, Result.andThen_ok, Sem.run_pure]
    · rename_i n
      split at hu
      · rename_i z hz
        obtain ⟨cz, z1, z2, z3, _⟩ := zeroA_rel (w := w) (φ := φ) hz
        have hrel := range_repl z2.cells (n + 1)
        obtain ⟨L', w', hL', p1, p2, p3, _, _⟩ := put_rel (P := P) hr hL hu hrel
        rw [hL] at hL'; cases hL'
        refine ⟨φ, .tuple #[], w', ?_, hund φ, φ.le_refl, p2, p3⟩
        have p1' : (storeCells ⟨L.B, L.base + o, none⟩ (Builtin.zeroCells cz.cells (n + 1)).toList).run P w = .ok () w' := p1
        simp only [Builtin.clear_, t0, a0, Sem.run_bind, run_underlying hun, Result.andThen_ok, z1, p1', Sem.run_pure]
      · cases hu
  · cases hu
theorem deleteA_rel (hr : HR N φ h w) {ts : Array TypeId} {args : Array Value} {ty t : TypeId} {x k : AV} {cx ck : Value} (t0 : ts[0]? = some t) (a0 : args[0]? = some cx) (a1 : args[1]? = some ck)
    (hx : VR φ x cx) (hk : VR φ k ck) (hu : deleteA P t x k h = some h') :
    VOk P N φ w (Builtin.delete_ ts ty args) und h' := by
  have hund : ∀ ψ, VR ψ und (.tuple #[]) := fun ψ => VR_und
  unfold deleteA at hu
  split at hu
  · rename_i kt elem hun
    simp only [VR_nilmap] at hx; subst hx
    split at hu
    · rename_i hkv
      cases hu
      have hck := keyV_rel (φ := φ) (P := P) (w := w) 4 10000 (by omega) true kt k ck hkv hk
      refine ⟨φ, .tuple #[], w, ?_, hund φ, φ.le_refl, hr, Below.refl _ _⟩
      simp only [Builtin.delete_, t0, a0, a1, Sem.run_bind, run_underlying hun, Result.andThen_ok, hck, Sem.run_pure]
    · cases hu
  · rename_i kt elem r hun
    simp only [VR_map] at hx; obtain ⟨L, hL, rfl⟩ := hx
    split at hu
    · rename_i es clock hkv hb
      obtain ⟨hN, ces, g1, g2⟩ := hr.get hb hL
      have hck := keyV_rel (φ := φ) (P := P) (w := w) 4 10000 (by omega) ces.isEmpty kt k ck hkv hk
      have hok := keyV_ok hkv
      have hne : ∀ c t f, (Obj.map ces clock) ≠ .cells c t f := fun _ _ _ => by simp
      split at hu
      · cases hu
      · rename_i i v' hf
        cases hu
        obtain ⟨cr, f1, cv', rfl, f2⟩ := findKey_rel (w := w) hok hk hf g2
        have hm := map_or_set hr hb hL (es' := es.eraseIdx i) (ces' := ces.eraseIdxIfInBounds i) clock
          (by
            have : (ces.eraseIdxIfInBounds i).toList = ces.toList.eraseIdx i := by
              rw [Array.eraseIdxIfInBounds]
              split
              · simp
              · rename_i q; rw [List.eraseIdx_of_length_le (by simpa using q)]
            rw [this]; exact eraseIdx_rel es ces.toList i g2)
        refine ⟨φ, .tuple #[], _, ?_, hund φ, φ.le_refl, hm.1, hm.2⟩
        simp only [Builtin.delete_, t0, a0, a1, Sem.run_bind, run_underlying hun, Result.andThen_ok, getObj_run g1 hne, hck, f1, setObj_run g1 hne, Sem.run_pure]
      · rename_i hf
        cases hu
        obtain ⟨cr, f1, f2⟩ := findKey_rel (w := w) hok hk hf g2
        simp only [FindR] at f2; subst f2
        refine ⟨φ, .tuple #[], w, ?_, hund φ, φ.le_refl, hr, Below.refl _ _⟩
        simp only [Builtin.delete_, t0, a0, a1, Sem.run_bind, run_underlying hun, Result.andThen_ok, getObj_run g1 hne, hck, f1, setObj_run g1 hne, Sem.run_pure, setB_self g1]
    · cases hu
  · cases hu
theorem mapEntryA_rel (hr : HR N φ h w) {t : TypeId} {x k v : AV} {cx ck : Value} (hx : VR φ x cx) (hk : VR φ k ck) (hu : mapEntryA P t x k h = .val v h') :
    VOk P N φ w (Instr.mapEntry t cx ck) v h' := by
  unfold mapEntryA at hu
  split at hu
  · rename_i kt elem r hun
    simp only [VR_map] at hx; obtain ⟨L, hL, rfl⟩ := hx
    split at hu
    · rename_i es clock hkv hb
      obtain ⟨hN, ces, g1, g2⟩ := hr.get hb hL
      have hck := keyV_rel (φ := φ) (P := P) (w := w) 4 10000 (by omega) false kt k ck hkv hk
      have hok := keyV_ok hkv
      have hne : ∀ c t f, (Obj.map ces clock) ≠ .cells c t f := fun _ _ _ => by simp
      split at hu
      · cases hu
      · rename_i i v' hf
        split at hu
        · rename_i e he hs
          simp only [R.val.injEq] at hu; obtain ⟨rfl, rfl⟩ := hu
          obtain ⟨cr, f1, cv', rfl, f2⟩ := findKey_rel (w := w) hok hk hf g2
          unfold sameAt at hs
          rw [he] at hs
          obtain ⟨ce, hce, e1, e2, e3⟩ := g2.get he
          rw [Array.getElem?_toList] at hce
          obtain ⟨q1, q2⟩ := sameV_eq hs e1 hk
          have hent : All2 (EntR φ) es (ces.modify i fun e => { e with key := ck }).toList := by
            rw [Array.toList_modify]
            apply All2.of_get
            · rw [List.length_modify]; exact g2.length
            · intro j a b ha hb
              obtain ⟨c, hc, hR⟩ := g2.get ha
              rw [List.getElem?_modify, hc] at hb
              by_cases q : i = j
              · subst q
                simp only [if_true, Option.map_eq_map, Option.map_some, Option.some.injEq] at hb; subst hb
                rw [he] at ha; cases ha
                exact ⟨by rw [q1]; exact hk, hR.2⟩
              · simp only [q, if_false, Option.map_eq_map, Option.map_some, Option.some.injEq] at hb; subst hb; exact hR
          have hm := map_or_set hr hb hL (es' := es) (ces' := ces.modify i fun e => { e with key := ck }) clock hent
          have hsame : HR N φ h (setB w L.B (.map (ces.modify i fun e => { e with key := ck }) clock)) := by
            refine ⟨fun b' o' hb' hn => ?_, hr.inj, hr.lt, hr.res, hr.glob⟩
            refine hm.1.obj b' o' ?_ hn
            rw [T.get_set]; split
            · rename_i q; subst q; rw [hb] at hb'; exact hb'
            · exact hb'
          refine ⟨φ, .tuple #[cv', goInt ce.born], _, ?_, ?_, φ.le_refl, hsame, hm.2⟩
          · simp only [Instr.mapEntry, Sem.run_bind, run_underlying hun, Result.andThen_ok, getObj_run g1 hne, hck, f1, hce, Option.map_some, Option.getD_some, Instr.keyThatStays, q2, if_true, Sem.run_pure, setObj_run g1 hne]
          · rw [VR_tuple]; exact ⟨_, rfl, f2, by rw [VR_int, e3]; rfl, trivial⟩
        · cases hu
      · rename_i hf
        split at hu
        · rename_i z hz
          simp only [R.val.injEq] at hu; obtain ⟨rfl, rfl⟩ := hu
          obtain ⟨cr, f1, f2⟩ := findKey_rel (w := w) hok hk hf g2
          simp only [FindR] at f2; subst f2
          obtain ⟨cz, z1, z2, _⟩ := zeroA_rel (w := w) (φ := φ) hz
          have hm := map_or_set hr hb hL (es' := es ++ [(k, z, clock)]) (ces' := ces.push { key := ck, val := cz, born := clock }) (clock + 1)
            (by rw [Array.toList_push]; exact g2.append ⟨⟨hk, z2, rfl⟩, trivial⟩)
          refine ⟨φ, .tuple #[cz, goInt clock], _, ?_, ?_, φ.le_refl, hm.1, hm.2⟩
          · simp only [Instr.mapEntry, Sem.run_bind, run_underlying hun, Result.andThen_ok, getObj_run g1 hne, hck, f1, z1, Sem.run_pure, setObj_run g1 hne]
          · rw [VR_tuple]; exact ⟨_, rfl, z2, by rw [VR_int]; rfl, trivial⟩
        · cases hu
    · cases hu
  · cases hu
end
end Go.AX


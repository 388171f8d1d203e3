/-
  AX: operations: append, copy, conversions.
-/
import Derived.Test.YtnhnhiieomhgfaaGreatDoorAxOps4
namespace Go.AX
open Go.RowKit

theorem small_le {n : Nat} (h : small n = true) : n ≤ 4194304 := Nat.le_of_ble_eq_true h

section
variable {P : Program} {N : NN} {φ : Phi} {h h' : H} {w : World}

theorem run_typeInfo {t : TypeId} {i : TypeInfo} (hi : P.info? t = some i) : (typeInfo t).run P w = .ok i w := by
  simp only [typeInfo, Sem.run_bind, run_program, Result.andThen_ok, hi, Sem.run_pure]

theorem zeroCells_size (z : Array Value) (n : Nat) : (Builtin.zeroCells z n).size = n * z.size := by simp [Builtin.zeroCells]

/-- A row that may be longer than is known: behind the others. -/
theorem keepK_sz {k : EK} {size : Nat} {e : TypeId} : (keepK k size e).sz = size := by
  unfold keepK; split <;> rfl

theorem keepK_ty {k : EK} {size : Nat} {e : TypeId} : (keepK k size e).ty ≠ 0 → e + 1 = (keepK k size e).ty := by
  unfold keepK; split
  · intro _; rfl
  · intro h; exact absurd rfl h

theorem keepK_old {k : EK} {size : Nat} {e : TypeId} : (keepK k size e).ty ≠ 0 → k.ty = (keepK k size e).ty := by
  unfold keepK; split
  · rename_i h; intro _; exact Nat.eq_of_beq_eq_true h
  · intro h; exact absurd rfl h

theorem grown_new (hr : HR N φ h w) (hN : N ≤ w.heap.size) {l : List AV} {cl : List Value} {rest : Array Value} {t : TypeId} {K : Nat} {esz : EK}
    (hl : All2 (VR φ) l cl) (ho : ∀ a, a ∈ l → a.one = true) (hsz : cl.length + rest.size = K * esz.sz) (hty : esz.ty ≠ 0 → t + 1 = esz.ty) (frz : Nat × Nat) (hf : frz = (0, 0) ∨ frz = (K * esz.sz, K * esz.sz + 1))
    (w' : World) (hw : w'.heap = w.heap.push (.cells (cl.toArray ++ rest) t frz)) (old : Option Nat) :
    HR N (φ.ins h.nx ⟨w.heap.size, 0, K⟩) (h.grown old esz l) w' ∧ φ.le (φ.ins h.nx ⟨w.heap.size, 0, K⟩) := by
  have hle : φ.le (φ.ins h.nx ⟨w.heap.size, 0, K⟩) := Phi.le_ins _ (hr.lt _ (Nat.le_refl _))
  have hor : OR (φ.ins h.nx ⟨w.heap.size, 0, K⟩) N ⟨w.heap.size, 0, K⟩ w' (.cells l.length (T.fill .e 0 l) esz false) := by
    have hcs : (cl.toArray ++ rest).size = K * esz.sz := by simp; exact hsz
    refine ⟨cl.toArray ++ rest, t, frz, by rw [hw]; simp, ?_, fun i v hi => ?_, fun _ => ⟨hN, fun i hi => ?_⟩, ⟨fun _ => by rw [hcs]; simp, fun _ => rfl, hty⟩⟩
    · rw [hcs, hl.length]; simp only [Nat.zero_add]; omega
    · rw [T.get_fill0] at hi
      obtain ⟨cv, hcv, hR⟩ := hl.get hi
      have hi' := (List.getElem?_eq_some_iff.1 hi).1
      refine ⟨hi', ho v (List.mem_of_getElem? hi), cv, ?_, hR.le hle⟩
      have hi2 : i < cl.length := by rw [← hl.length]; exact hi'
      rw [Nat.zero_add, Array.getElem?_append_left (by simpa using hi2)]
      simpa using hcv
    · rw [hcs] at hi
      rcases hf with rfl | rfl
      · simp
      · simp; omega
  cases old with
  | none => exact hr.push _ 0 K _ hw hor
  | some b => exact (hr.drop b).push _ 0 K _ hw hor

section
variable {ts : Array TypeId} {args : Array Value} {ty t u e : TypeId} {cx : Value} {d : TypeDesc} {base : Option Addr} {sLen sCap n : Nat} {new : Array Value}

theorem append_fits (t0 : ts[0]? = some t) (t1 : ts[1]? = some u) (a0 : args[0]? = some (.slice base sLen sCap)) (a1 : args[1]? = some cx)
    (ht : P.underlying t = some (.slice e)) (hu : P.underlying u = some d) (hd : ∀ k, d ≠ .int k) (hok : okT P e = true) (hn : (Builtin.lenOf cx).run P w = .ok n w)
    (hf : sLen + n ≤ sCap) (hnew : (Builtin.firstCells (P.cellsOf e) n cx).run P w = .ok new w) :
    (Builtin.append_ ts ty args).run P w = match base with
      | some a => ((storeCells (a.add (sLen * P.cellsOf e)) new.toList).run P w).andThen fun _ w' => .ok (.slice base (sLen + n) sCap) w'
      | none => .ok (.slice base (sLen + n) sCap) w := by
  cases d <;> first
    | exact absurd rfl (hd _)
    | (simp only [Builtin.append_, t0, t1, a0, a1, Sem.run_bind, run_underlying ht, run_underlying hu, Result.andThen_ok, sizeOf_run e hok, Sem.run_pure, Bool.false_eq_true, if_false, hn, hf, if_true, Bool.not_false, hnew]
       cases base with
       | none => simp only [Sem.run_pure]
       | some a => simp only [Sem.run_pure, Sem.run_bind])

theorem append_grows (t0 : ts[0]? = some t) (t1 : ts[1]? = some u) (a0 : args[0]? = some (.slice base sLen sCap)) (a1 : args[1]? = some cx)
    (ht : P.underlying t = some (.slice e)) (hu : P.underlying u = some d) (hd : ∀ k, d ≠ .int k) (hok : okT P e = true) (hn : (Builtin.lenOf cx).run P w = .ok n w)
    (hf : ¬ sLen + n ≤ sCap) {info : TypeInfo} (hi : P.info? e = some info) (hb : info.bytes ≤ 4194304) (hb0 : info.bytes ≠ 0) (hs : sLen + n ≤ 4194304) {z : Value} (hz0 : ∀ w, (zeroValue e).run P w = .ok z w)
    {old : Array Value} (hold : (Builtin.firstCells (P.cellsOf e) sLen (.slice base sLen sCap)).run P { w with drawn := w.drawn + 1 } = .ok old { w with drawn := w.drawn + 1 })
    (hnew : (Builtin.firstCells (P.cellsOf e) n cx).run P { w with drawn := w.drawn + 1 } = .ok new { w with drawn := w.drawn + 1 }) :
    ∃ cap w', sLen + n ≤ cap ∧ (Builtin.append_ ts ty args).run P w = .ok (.slice (some ⟨w.heap.size, 0, none⟩) (sLen + n) cap) w' ∧
      w'.heap = w.heap.push (.cells (old ++ new ++ Builtin.zeroCells z.cells (cap - (sLen + n))) e) ∧ w'.os = w.os ∧ w'.tape = w.tape ∧ w'.output = w.output := by
  have g1 : ¬ (((sLen + n : Nat) : Int) > IntKind.i64.max ∧ (False ∨ info.bytes = 0)) := fun x => by
    rcases x.2 with x | x
    · exact x
    · exact hb0 x
  have g2 : ¬ (Builtin.nextslicecap (sLen + n) sCap * info.bytes > 2 ^ 48) := by
    have := nextslicecap_le (need := sLen + n) (old := sCap) (by omega)
    have h2 : Builtin.nextslicecap (sLen + n) sCap * info.bytes ≤ 8388608 * 4194304 := Nat.mul_le_mul (by omega) hb
    omega
  have hq : (Question.appendCap (sLen + n) sCap e).forced = false := rfl
  refine ⟨(Question.appendCap (sLen + n) sCap e).cut (w.tape w.drawn (.appendCap (sLen + n) sCap e)),
    { w with heap := w.heap.push (.cells (old ++ new ++ Builtin.zeroCells z.cells ((Question.appendCap (sLen + n) sCap e).cut (w.tape w.drawn (.appendCap (sLen + n) sCap e)) - (sLen + n))) e), drawn := w.drawn + 1 }, ?_, ?_, rfl, rfl, rfl, rfl⟩
  · simp [Question.cut]
  · cases d <;> first
      | exact absurd rfl (hd _)
      | (simp only [Builtin.append_, t0, t1, a0, a1, Sem.run_bind, run_underlying ht, run_underlying hu, Result.andThen_ok, sizeOf_run e hok, Sem.run_pure, Bool.false_eq_true, if_false, hn, hf, run_typeInfo hi, g1, g2, run_choose, hq, run_askRoom,
          Bool.not_false, if_true]
         rw [hold]
         simp only [Result.andThen_ok]
         rw [hnew]
         simp only [Result.andThen_ok, hz0, newRow, Sem.run_bind, run_newObj, Sem.run_pure])
end

theorem info_cells {e : TypeId} {i : TypeInfo} (hi : P.info? e = some i) : P.cellsOf e = i.size := by simp [Program.cellsOf, hi]

theorem below_eq {w' : World} (hN : N ≤ w.heap.size) {O : Obj} (hw : w'.heap = w.heap.push O) (h1 : w'.os = w.os) (h2 : w'.tape = w.tape) (h3 : w'.output = w.output) : Below N w w' :=
  ⟨h1, h2, h3, by rw [hw]; simp, fun k hk => by rw [hw, Array.getElem?_push, if_neg (by omega)]⟩

theorem arr_eq (cl : List Value) (a : Array Value) : (cl ++ a.toList).toArray = cl.toArray ++ a := by simp

theorem mem_append_one {a b : List AV} (ha : ∀ x, x ∈ a → x.one = true) (hb : ∀ x, x ∈ b → x.one = true) : ∀ x, x ∈ a ++ b → x.one = true := fun x hx => by
  rcases List.mem_append.1 hx with q | q
  · exact ha x q
  · exact hb x q

theorem loadCells_get {cs : T AV} : ∀ {k o : Nat} {l : List AV}, H.loadCells cs o k = some l → ∀ j a, l[j]? = some a → cs.get (o + j) = some a
  | 0, _, _, h, j, a, hj => by simp only [H.loadCells, Option.some.injEq] at h; subst h; simp at hj
  | k + 1, o, l, h, j, a, hj => by
    simp only [H.loadCells] at h
    split at h
    · cases h
    · rename_i v hv
      split at h
      · cases h
      · rename_i l' hl'
        cases h
        cases j with
        | zero => simp only [List.getElem?_cons_zero, Option.some.injEq] at hj; subst hj; exact hv
        | succ j =>
          simp only [List.getElem?_cons_succ] at hj
          have := loadCells_get hl' j a hj
          rwa [show o + 1 + j = o + (j + 1) by omega] at this

/-- What is appended lies behind the old row, in its array; the new row takes the array over. -/
theorem grown_over (hr : HR N φ h w) {b o i len n size ecells : Nat} {cs : T AV} {L : Loc} {k k' : EK} (hb : h.t.get b = some (.cells ecells cs k false)) (hks : k.sz = size) (hks' : k'.sz = size) (hkt : k'.ty ≠ 0 → k.ty = k'.ty) (hL : φ b = some L) (hs0 : size ≠ 0) (ho : o = i * size)
    {old new : List AV} {cl : List Value} (hold : H.loadCells cs o (len * size) = some old) (hn : All2 (VR φ) new cl) (hone : ∀ a, a ∈ new → a.one = true) (hlen : new.length = n * size) (hfit : i + (len + n) ≤ L.K) :
    ∃ w', (storeCells ⟨L.B, L.base + o + len * size, none⟩ cl).run P w = .ok () w' ∧ HR N (φ.ins h.nx ⟨L.B, L.base + o, L.K - i⟩) (h.grown (some b) k' (old ++ new)) w' ∧
      φ.le (φ.ins h.nx ⟨L.B, L.base + o, L.K - i⟩) ∧ Below N w w' := by
  have hor := hr.get hb hL
  have hlt := hor.lt
  obtain ⟨c, t, frz, g1, g2, g3, g4, g5⟩ := hor
  obtain ⟨hN, hfr⟩ := g4 rfl
  have hcs := g5.1 (by rw [hks]; exact hs0)
  rw [hks] at hcs
  have hcl : cl.length = n * size := by rw [← hn.length]; exact hlen
  have hle : φ.le (φ.ins h.nx ⟨L.B, L.base + o, L.K - i⟩) := Phi.le_ins _ (hr.lt _ (Nat.le_refl _))
  have hmul : i * size + (len * size + n * size) ≤ L.K * size := by
    rw [← Nat.add_mul, ← Nat.add_mul]; exact Nat.mul_le_mul_right _ hfit
  have hsub : L.K * size = i * size + (L.K - i) * size := by rw [← Nat.add_mul]; congr 1; omega
  have hol := loadCells_length hold
  obtain ⟨c', r1, r2, r3⟩ := run_storeCells P (B := L.B) (base := L.base + o + len * size) (t := t) (frz := frz) cl 0 w c g1
    (fun j hj => by rw [hcl] at hj; exact ⟨by omega, hfr _ (by omega)⟩)
    (fun v hv => by
      obtain ⟨j, hj⟩ := List.getElem?_of_mem hv
      obtain ⟨a, ha, hR⟩ := hn.get' hj
      exact hR.one (hone a (List.mem_of_getElem? ha)))
  refine ⟨_, r1, ?_, hle, below_setB _ hN⟩
  have hd := hr.drop b
  refine (hd.add (w' := setB w L.B (.cells c' t frz)) ⟨L.B, L.base + o, L.K - i⟩ (.cells (old ++ new).length (T.fill .e 0 (old ++ new)) k' false) ?_ ?_ ?_).1
  · intro x ox L0 hx hL0 e
    have hx' : x ≠ b ∧ h.t.get x = some ox := by
      simp only [T.get_set] at hx
      split at hx
      · cases hx
      · rename_i q; exact ⟨q, hx⟩
    exact hx'.1 (hr.inj x ox b _ L0 L hx'.2 hb hL0 hL e)
  · intro x ox L0 hx hL0
    have hx' : x ≠ b ∧ h.t.get x = some ox := by
      simp only [T.get_set] at hx
      split at hx
      · cases hx
      · rename_i q; exact ⟨q, hx⟩
    rw [setB_get hlt, if_neg (fun e => hx'.1 (hr.inj x ox b _ L0 L hx'.2 hb hL0 hL e))]
  · refine ⟨c', t, frz, by rw [setB_get hlt, if_pos rfl], ?_, fun j v hj => ?_, fun _ => ⟨hN, by rw [r2]; exact hfr⟩, ⟨fun _ => ?_, fun e => absurd (hks'.symm.trans e) hs0, fun e => by rw [← hkt e]; exact g5.2.2 (by rw [hkt e]; exact e)⟩⟩
    · rw [r2, List.length_append, hol, hlen]; show L.base + o + _ ≤ _; omega
    · rw [T.get_fill0] at hj
      have hjl := (List.getElem?_eq_some_iff.1 hj).1
      have hj2 : j < len * size + n * size := by rw [List.length_append, hol, hlen] at hjl; exact hjl
      refine ⟨hjl, ?_⟩
      show v.one = true ∧ ∃ cv, c'[L.base + o + j]? = some cv ∧ VR _ v cv
      by_cases q : j < len * size
      · rw [List.getElem?_append_left (by omega)] at hj
        obtain ⟨u1, u2, cv, u3, u4⟩ := g3 _ _ (loadCells_get hold j v hj)
        refine ⟨u2, cv, ?_, u4.le hle⟩
        rw [r3, if_neg (by omega), Nat.add_assoc]; exact u3
      · rw [List.getElem?_append_right (by omega), hol] at hj
        obtain ⟨cv, hcv, hR⟩ := hn.get hj
        refine ⟨hone v (List.mem_of_getElem? hj), cv, ?_, hR.le hle⟩
        rw [r3, if_pos (by omega), show L.base + o + j - (L.base + o + len * size + 0) = j - len * size by omega]; exact hcv
    · rw [r2, hcs, hsub, ho, hks']; show _ = L.base + i * size + (L.K - i) * size; omega

theorem repl_one {l : List AV} (hl : ∀ a, a ∈ l → a.one = true) : ∀ n a, a ∈ repl l n → a.one = true
  | 0, _, h => by simp [repl] at h
  | n + 1, a, h => by
    simp only [repl, List.mem_append] at h
    rcases h with h1 | h1
    · exact hl a h1
    · exact repl_one hl n a h1

theorem appendOk_rel {e : TypeId} {info : TypeInfo} (hi : P.info? e = some info) (h : appendOk P e info = true) :
    P.cellsOf e = info.size ∧ info.bytes ≤ 4194304 ∧ info.bytes ≠ 0 ∧ info.size ≠ 0 ∧ okT P e = true ∧ ∃ z, z.cells.size = info.size ∧ ∀ w, (zeroValue e).run P w = .ok z w := by
  unfold appendOk at h
  simp only [Bool.and_eq_true, Bool.not_eq_true', Bool.or_eq_false_iff] at h
  obtain ⟨⟨hb, hok⟩, ⟨hz1, hz2⟩, hz3⟩ := h
  obtain ⟨z, hz4, hz5⟩ : ∃ z, info.zero = some z ∧ z.cells.size = info.size := by
    cases hzz : info.zero with
    | none => rw [hzz] at hz3; simp at hz3
    | some z => rw [hzz] at hz3; simp at hz3; exact ⟨z, rfl, hz3⟩
  refine ⟨info_cells hi, by have := small_le hb; omega, Nat.ne_of_beq_eq_false hz1, Nat.ne_of_beq_eq_false hz2, hok, z, hz5, fun w => ?_⟩
  simp only [zeroValue, Sem.run_bind, run_typeInfo hi, Result.andThen_ok, hz4, Sem.run_pure]

/-- What 'append' does with elements that are known, whatever they come from. -/
theorem appendN_rel (hr : HR N φ h w) (hN : N ≤ w.heap.size) {ts : Array TypeId} {args : Array Value} {ty e : TypeId} {size n : Nat} {s v : AV} {new : List AV} {cs z : Value} {arr arr1 : Array Value}
    (hce : P.cellsOf e = size) (hs0 : size ≠ 0) (hz2 : z.cells.size = size) (ha2 : All2 (VR φ) new arr.toList) (ha3 : ∀ a, a ∈ new → a.one = true) (hb2 : All2 (VR φ) new arr1.toList)
    (F : ∀ base sLen sCap, cs = .slice base sLen sCap → sLen + n ≤ sCap → (Builtin.append_ ts ty args).run P w = match base with
      | some a => ((storeCells (a.add (sLen * P.cellsOf e)) arr.toList).run P w).andThen fun _ w' => .ok (.slice base (sLen + n) sCap) w'
      | none => .ok (.slice base (sLen + n) sCap) w)
    (G : ∀ base sLen sCap old, cs = .slice base sLen sCap → ¬ sLen + n ≤ sCap → sLen + n ≤ 4194304 → (Builtin.firstCells (P.cellsOf e) sLen (.slice base sLen sCap)).run P { w with drawn := w.drawn + 1 } = .ok old { w with drawn := w.drawn + 1 } →
      ∃ cap w', sLen + n ≤ cap ∧ (Builtin.append_ ts ty args).run P w = .ok (.slice (some ⟨w.heap.size, 0, none⟩) (sLen + n) cap) w' ∧
        w'.heap = w.heap.push (.cells (old ++ arr1 ++ Builtin.zeroCells z.cells (cap - (sLen + n))) e) ∧ w'.os = w.os ∧ w'.tape = w.tape ∧ w'.output = w.output)
    (hs : VR φ s cs) (ha : appendN e size s n new h = .val v h') : VOk P N φ w (Builtin.append_ ts ty args) v h' := by
  have hb3 := ha3
  unfold appendN at ha
  split at ha
  · cases ha
  · rename_i hlen
    have hlen := Nat.eq_of_beq_eq_true hlen
    have hr1 : HR N φ h { w with drawn := w.drawn + 1 } := hr.heap_eq rfl
    split at ha
    · -- nil
      simp only [VR_nilslice] at hs; subst hs
      split at ha
      · cases ha
        refine ⟨φ, .slice none 0 0, w, ?_, VR_nilslice.2 rfl, φ.le_refl, hr, Below.refl _ _⟩
        rw [F _ _ _ rfl (by omega)]
      · rename_i n0
        split at ha
        · rename_i hsm
          cases ha
          have hsm := small_le hsm
          have hold : (Builtin.firstCells (P.cellsOf e) 0 (.slice none 0 0)).run P { w with drawn := w.drawn + 1 } = .ok #[] { w with drawn := w.drawn + 1 } := rfl
          have npos : n ≠ 0 := fun e0 => n0 e0
          obtain ⟨cap, w', hc1, hc2, hc3, hc4, hc5, hc6⟩ := G _ _ _ _ rfl (by omega) (by omega) hold
          have hsz : arr1.toList.length + (Builtin.zeroCells z.cells (cap - (0 + n))).size = cap * size := by
            rw [zeroCells_size, hz2, ← hb2.length, hlen, ← Nat.add_mul]; congr 1; omega
          have hg := grown_new hr hN (t := e) (esz := ⟨size, e + 1⟩) hb2 hb3 hsz (fun _ => rfl) (0, 0) (.inl rfl) w' (by rw [hc3]; simp) none
          refine ⟨_, _, w', hc2, ?_, hg.2, hg.1, below_eq hN hc3 hc4 hc5 hc6⟩
          rw [VR_sliceOp]
          exact ⟨_, Phi.ins_same _ _ _, by simp, by simpa using hc1⟩
        · cases ha
    · -- no elements, no place
      simp only [VR_slice0] at hs; obtain ⟨a, c, rfl⟩ := hs
      split at ha
      · cases ha
        refine ⟨φ, .slice (some a) 0 c, w, ?_, VR_slice0.2 ⟨_, _, rfl⟩, φ.le_refl, hr, Below.refl _ _⟩
        have he : arr.toList = [] := by
          have : new = [] := by
            have := hlen; simp at this; exact this
          subst this; exact All2.nil_left.1 ha2
        rw [F _ _ _ rfl (by omega), he]
        simp [storeCells]
      · cases ha
    · -- an exact capacity
      rename_i b o len c
      have hs' := hs
      rw [VR_sliceEx] at hs'; obtain ⟨L, hL, rfl⟩ := hs'
      split at ha
      · rename_i hfit
        have hfit := Nat.le_of_ble_eq_true hfit
        split at ha
        · rename_i h1 hput
          cases ha
          obtain ⟨L', w', hL', p1, p2, p3, _, _⟩ := put_rel (P := P) hr hL hput ha2
          rw [hL] at hL'; cases hL'
          refine ⟨φ, .slice (some ⟨L.B, L.base + o, none⟩) (len + n) c, w', ?_, by rw [VR_sliceEx]; exact ⟨L, hL, rfl⟩, φ.le_refl, p2, p3⟩
          rw [F _ _ _ rfl hfit]
          simp only [add_none, hce, Nat.add_assoc]
          rw [p1]; rfl
        · cases ha
      · rename_i hfit
        have hfit : ¬ (len + n ≤ c) := fun x => by rw [Nat.ble_eq_true_of_le x] at hfit; cases hfit
        split at ha
        · rename_i old hsm hrow
          cases ha
          have hsm := small_le hsm
          obtain ⟨L', cl, hL', r1, r2, r3, r4⟩ := row_rel (P := P) hr1 hL hrow
          rw [hL] at hL'; cases hL'
          have hold : (Builtin.firstCells (P.cellsOf e) len (.slice (some ⟨L.B, L.base + o, none⟩) len c)).run P { w with drawn := w.drawn + 1 } = .ok cl.toArray { w with drawn := w.drawn + 1 } := by
            rw [hce]; exact r1
          obtain ⟨cap, w', hc1, hc2, hc3, hc4, hc5, hc6⟩ := G _ _ _ _ rfl hfit hsm hold
          have hsz : (cl ++ arr1.toList).length + (Builtin.zeroCells z.cells (cap - (len + n))).size = cap * size := by
            rw [zeroCells_size, hz2, List.length_append, ← hb2.length, hlen, r3, ← Nat.add_mul, ← Nat.add_mul]; congr 1; omega
          have hg := grown_new hr hN (t := e) (esz := ⟨size, e + 1⟩) (r2.append hb2) (mem_append_one r4 hb3) hsz (fun _ => rfl) (0, 0) (.inl rfl) w' (by rw [hc3, arr_eq]) none
          refine ⟨_, _, w', hc2, ?_, hg.2, hg.1, below_eq hN hc3 hc4 hc5 hc6⟩
          rw [VR_sliceOp]
          exact ⟨_, Phi.ins_same _ _ _, by simp, by simpa using hc1⟩
        · cases ha
    · -- a capacity that is not known
      rename_i b o len i
      have hs' := hs
      rw [VR_sliceOp] at hs'; obtain ⟨L, hL, rfl, hK⟩ := hs'
      split at ha
      · cases ha
        refine ⟨φ, .slice (some ⟨L.B, L.base + o, none⟩) len (L.K - i), w, ?_, hs, φ.le_refl, hr, Below.refl _ _⟩
        have he : arr.toList = [] := by
          have : new = [] := by
            have := hlen; simp at this; exact this
          subst this; exact All2.nil_left.1 ha2
        rw [F _ _ _ rfl (by omega), he]
        simp [storeCells]
      · split at ha
        · rename_i ecells cs esz hb2' ho
          have ho := Nat.eq_of_beq_eq_true ho
          split at ha
          · cases ha
          · rename_i hesz
            have hesz := Nat.eq_of_beq_eq_true hesz
            split at ha
            · rename_i hin
              have hin := Nat.le_of_ble_eq_true hin
              split at ha
              · rename_i h1 hput
                cases ha
                obtain ⟨L', w', hL', p1, p2, p3, _, _⟩ := put_rel (P := P) hr hL hput ha2
                rw [hL] at hL'; cases hL'
                obtain ⟨c, t', frz, g1, g2, g3, g4, g5⟩ := hr.get hb2' hL
                have hcs := g5.1 (by rw [hesz]; exact hs0)
                rw [hesz] at hcs
                have hle : i + (len + n) ≤ L.K := by
                  have : (i + (len + n)) * size ≤ L.K * size := by rw [Nat.add_mul, ← ho]; omega
                  exact Nat.le_of_mul_le_mul_right this (by omega)
                refine ⟨φ, .slice (some ⟨L.B, L.base + o, none⟩) (len + n) (L.K - i), w', ?_, by rw [VR_sliceOp]; exact ⟨L, hL, rfl, hle⟩, φ.le_refl, p2, p3⟩
                rw [F _ _ _ rfl (by omega)]
                simp only [add_none, hce, Nat.add_assoc]
                rw [p1]; rfl
              · cases ha
            · split at ha
              · rename_i old hsm hrow
                cases ha
                have hsm := small_le hsm
                by_cases hfit : i + (len + n) ≤ L.K
                · obtain ⟨w', p1, p2, p3, p4⟩ := grown_over (P := P) (k' := keepK esz size e) hr hb2' hesz keepK_sz keepK_old hL hs0 ho hrow ha2 ha3 hlen hfit
                  refine ⟨_, .slice (some ⟨L.B, L.base + o, none⟩) (len + n) (L.K - i), w', ?_, ?_, p3, p2, p4⟩
                  · rw [F _ _ _ rfl (by omega)]
                    simp only [add_none, hce]
                    rw [p1]; rfl
                  · rw [VR_sliceOp]
                    exact ⟨_, Phi.ins_same _ _ _, by simp, by show 0 + (len + n) ≤ L.K - i; omega⟩
                · obtain ⟨cl, r2, r3, _, r4⟩ := loadCells_rel (hr1.get hb2' hL) _ _ _ hrow
                  have hrow' : h.row b o (len * size) = some old := by unfold H.row; rw [hb2']; exact hrow
                  obtain ⟨L', cl, hL', r1, r2, r3, r4⟩ := row_rel (P := P) hr1 hL hrow'
                  rw [hL] at hL'; cases hL'
                  have hold : (Builtin.firstCells (P.cellsOf e) len (.slice (some ⟨L.B, L.base + o, none⟩) len (L.K - i))).run P { w with drawn := w.drawn + 1 } = .ok cl.toArray { w with drawn := w.drawn + 1 } := by
                    rw [hce]; exact r1
                  obtain ⟨cap, w', hc1, hc2, hc3, hc4, hc5, hc6⟩ := G _ _ _ _ rfl (by omega) hsm hold
                  have hsz : (cl ++ arr1.toList).length + (Builtin.zeroCells z.cells (cap - (len + n))).size = cap * size := by
                    rw [zeroCells_size, hz2, List.length_append, ← hb2.length, hlen, r3, ← Nat.add_mul, ← Nat.add_mul]; congr 1; omega
                  have hg := grown_new hr hN (t := e) (esz := keepK esz size e) (r2.append hb2) (mem_append_one r4 hb3) (by rw [keepK_sz]; exact hsz) keepK_ty (0, 0) (.inl rfl) w' (by rw [hc3, arr_eq]) (some b)
                  refine ⟨_, _, w', hc2, ?_, hg.2, hg.1, below_eq hN hc3 hc4 hc5 hc6⟩
                  rw [VR_sliceOp]
                  exact ⟨_, Phi.ins_same _ _ _, by simp, by simpa using hc1⟩
              · cases ha
        · cases ha
    · cases ha

theorem appendA_rel (hr : HR N φ h w) (hN : N ≤ w.heap.size) {ts : Array TypeId} {args : Array Value} {ty t u e : TypeId} {d : TypeDesc} {s x v : AV} {cs cx : Value}
    (t0 : ts[0]? = some t) (t1 : ts[1]? = some u) (a0 : args[0]? = some cs) (a1 : args[1]? = some cx)
    (ht : P.underlying t = some (.slice e)) (hu : P.underlying u = some d) (hd : ∀ k, d ≠ .int k) (hs : VR φ s cs) (hx : VR φ x cx) (ha : appendA P e s x h = .val v h') :
    VOk P N φ w (Builtin.append_ ts ty args) v h' := by
  unfold appendA at ha
  split at ha
  · cases ha
  · rename_i info hi
    split at ha
    · rename_i n hn hap
      obtain ⟨hce, hbytes, hb0, hs0, hok, z, hz2, hz0⟩ := appendOk_rel hi hap
      split at ha
      · cases ha
      · rename_i new hnew
        have hln := fun w => lenOfA_rel (P := P) (w := w) hx hn
        have src : ∀ w', HR N φ h w' → ∃ arr, (Builtin.firstCells (P.cellsOf e) n cx).run P w' = .ok arr w' ∧ All2 (VR φ) new arr.toList ∧ ∀ a, a ∈ new → a.one = true := fun w' hr' => by
          rw [hce]; exact srcA_rel hr' hx hn (Nat.le_refl _) hnew
        obtain ⟨arr, ha1, ha2, ha3⟩ := src w hr
        obtain ⟨arr1, hb1, hb2, hb3⟩ := src { w with drawn := w.drawn + 1 } (hr.heap_eq rfl)
        refine appendN_rel hr hN hce hs0 hz2 ha2 ha3 hb2 (fun base sLen sCap e1 hf => ?_) (fun base sLen sCap old e1 hf hsm hold => ?_) hs ha
        · subst e1; exact append_fits t0 t1 a0 a1 ht hu hd hok (hln w) hf ha1
        · subst e1; exact append_grows t0 t1 a0 a1 ht hu hd hok (hln w) hf hi hbytes hb0 hsm hz0 hold hb1
    · cases ha

theorem appendZ_rel (hr : HR N φ h w) (hN : N ≤ w.heap.size) {ts : Array TypeId} {args : Array Value} {ty t u e : TypeId} {k : IntKind} {s x v : AV} {cs cx : Value}
    (t0 : ts[0]? = some t) (t1 : ts[1]? = some u) (a0 : args[0]? = some cs) (a1 : args[1]? = some cx)
    (ht : P.underlying t = some (.slice e)) (hu : P.underlying u = some (.int k)) (hs : VR φ s cs) (hx : VR φ x cx) (ha : appendZ P e s x h = .val v h') :
    VOk P N φ w (Builtin.append_ ts ty args) v h' := by
  unfold appendZ at ha
  split at ha
  · rename_i info j n hi
    simp only [VR_int] at hx; subst hx
    split at ha
    · rename_i za hza hap
      simp only [Bool.and_eq_true] at hap
      obtain ⟨hce, hbytes, hb0, hs0, hok, z, hz2, hz0⟩ := appendOk_rel hi hap.1
      have hn := small_le hap.2
      obtain ⟨cz, q1, q2, q3, _⟩ := zeroA_rel (w := w) (φ := φ) hza
      have hcz : cz = z := by have := hz0 w; rw [q1] at this; cases this; rfl
      subst hcz
      have hrep : All2 (VR φ) (repl za.cells n) (Builtin.zeroCells cz.cells n).toList := range_repl q2.cells n
      have hone : ∀ a, a ∈ repl za.cells n → a.one = true := repl_one q3 n
      have hwrap : IntKind.i64.wrap (Int.ofNat n) = Int.ofNat n := by
        have := wrapF_eq .i64 (Int.ofNat n)
        rw [← this]
        simp only [wrapF]
        have e1 : Int.emod (Int.ofNat n) 18446744073709551616 = Int.ofNat n := by
          show (Int.ofNat n) % 18446744073709551616 = _
          exact Int.emod_eq_of_lt (by simp) (by show ((n : Nat) : Int) < _; omega)
        rw [e1, if_pos (by show ((n : Nat) : Int) < _; omega)]
      have hsz : (Builtin.zeroCells cz.cells n).size = n * info.size := by rw [zeroCells_size, hz2]
      have hempty : n * info.size = 0 → Builtin.zeroCells cz.cells n = #[] := fun e0 => by
        rw [e0] at hsz; exact Array.size_eq_zero_iff.1 hsz
      have hneg : ¬ (Int.ofNat n) < 0 := by simp
      have h4 : (Int.ofNat n).toNat = n := rfl
      have hbig : ¬ (Int.ofNat n * (info.bytes : Int) > 2 ^ 48) := by
        have : n * info.bytes ≤ 4194304 * 4194304 := Nat.mul_le_mul hn hbytes
        have : ((n * info.bytes : Nat) : Int) ≤ ((4194304 * 4194304 : Nat) : Int) := by exact_mod_cast this
        simp only [Int.ofNat_eq_natCast, Int.natCast_mul] at this ⊢
        omega
      refine appendN_rel hr hN hce hs0 hz2 hrep hone hrep (fun base sLen sCap e1 hf => ?_) (fun base sLen sCap old e1 hf hsm hold => ?_) hs ha
      · subst e1
        simp only [Builtin.append_, t0, t1, a0, a1, Sem.run_bind, run_underlying ht, run_underlying hu, Result.andThen_ok, sizeOf_run e hok, Sem.run_pure]
        simp only [if_true, Sem.run_bind, asInt, asIntOf, Sem.run_pure, Result.andThen_ok, hwrap, hneg, if_false, run_typeInfo hi, hbig, h4, hf, Bool.not_true, Bool.false_eq_true]
        by_cases e0 : n * P.cellsOf e = 0
        · simp only [e0, if_true, Sem.run_pure, Result.andThen_ok]
          rw [hempty (by rw [← hce]; exact e0)]
          cases base with
          | none => simp only [Sem.run_pure]
          | some a => simp only [Sem.run_pure, Sem.run_bind]
        · simp only [e0, if_false, Sem.run_bind, hz0, Sem.run_pure, Result.andThen_ok]
          cases base with
          | none => simp only [Sem.run_pure]
          | some a => simp only [Sem.run_pure, Sem.run_bind]
      · subst e1
        have g1 : ¬ (((sLen + n : Nat) : Int) > IntKind.i64.max ∧ (True ∨ info.bytes = 0)) := fun x => by
          have := x.1
          have hmax : IntKind.i64.max = 9223372036854775807 := rfl
          rw [hmax] at this
          omega
        have g2 : ¬ (Builtin.nextslicecap (sLen + n) sCap * info.bytes > 2 ^ 48) := by
          have := nextslicecap_le (need := sLen + n) (old := sCap) (by omega)
          have h2 : Builtin.nextslicecap (sLen + n) sCap * info.bytes ≤ 8388608 * 4194304 := Nat.mul_le_mul (by omega) hbytes
          omega
        have hq : (Question.appendCap (sLen + n) sCap e).forced = false := rfl
        refine ⟨(Question.appendCap (sLen + n) sCap e).cut (w.tape w.drawn (.appendCap (sLen + n) sCap e)),
          { w with heap := w.heap.push (.cells (old ++ Builtin.zeroCells cz.cells n ++ Builtin.zeroCells cz.cells ((Question.appendCap (sLen + n) sCap e).cut (w.tape w.drawn (.appendCap (sLen + n) sCap e)) - (sLen + n))) e), drawn := w.drawn + 1 }, ?_, ?_, rfl, rfl, rfl, rfl⟩
        · simp [Question.cut]
        · simp only [Builtin.append_, t0, t1, a0, a1, Sem.run_bind, run_underlying ht, run_underlying hu, Result.andThen_ok, sizeOf_run e hok, Sem.run_pure]
          simp only [if_true, Sem.run_bind, asInt, asIntOf, Sem.run_pure, Result.andThen_ok, hwrap, hneg, if_false, run_typeInfo hi, hbig, h4, hf, Bool.not_true, Bool.false_eq_true, g1, g2, run_choose, hq, run_askRoom]
          rw [hold]
          simp only [Result.andThen_ok]
          by_cases e0 : n * P.cellsOf e = 0
          · simp only [e0, if_true, Sem.run_pure, Result.andThen_ok, hz0, newRow, Sem.run_bind, run_newObj]
            rw [hempty (by rw [← hce]; exact e0)]
          · simp only [e0, if_false, Sem.run_bind, hz0, Sem.run_pure, Result.andThen_ok, newRow, run_newObj]
    · cases ha
  · cases ha

end
end Go.AX

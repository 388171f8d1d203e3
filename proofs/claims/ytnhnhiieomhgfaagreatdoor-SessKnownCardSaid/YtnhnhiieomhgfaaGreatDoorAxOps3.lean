/-
  AX: operations: memory is read, written, made; structs and arrays are built.
-/
import Derived.Test.YtnhnhiieomhgfaaGreatDoorAxOps2
namespace Go.AX
open Go.RowKit

theorem allOne_mem : ∀ {l : List AV}, allOne l = true → ∀ a, a ∈ l → a.one = true
  | [], _, _, h => by simp at h
  | v :: l, h, a, ha => by
    simp only [allOne] at h
    split at h
    · rename_i hv
      rcases List.mem_cons.1 ha with rfl | ha
      · exact hv
      · exact allOne_mem h a ha
    · cases h

section
variable {P : Program} {N : NN} {φ : Phi} {h h' : H} {w : World}

/-- A value comes of it; the heap may have grown. -/
def VOk (P : Program) (N : NN) (φ : Phi) (w : World) (m : Sem Value) (v : AV) (h' : H) : Prop :=
  ∃ φ' cv w', m.run P w = .ok cv w' ∧ VR φ' v cv ∧ φ.le φ' ∧ HR N φ' h' w' ∧ Below N w w'

def UOk (P : Program) (N : NN) (φ : Phi) (w : World) (m : Sem Unit) (h' : H) : Prop :=
  ∃ φ' w', m.run P w = .ok () w' ∧ φ.le φ' ∧ HR N φ' h' w' ∧ Below N w w'

theorem Pu.vok {m : Sem Value} {v : AV} (hr : HR N φ h w) (x : Pu P φ w m v) : VOk P N φ w m v h := by
  obtain ⟨cv, h1, h2⟩ := x
  exact ⟨φ, cv, w, h1, h2, φ.le_refl, hr, Below.refl _ _⟩

theorem zeroA_rel {t : TypeId} {z : AV} (hz : zeroA P t = some z) : ∃ cz, (zeroValue t).run P w = .ok cz w ∧ VR φ z cz ∧ (∀ a, a ∈ z.cells → a.one = true) ∧
    ∃ i, P.info? t = some i ∧ i.zero = some cz := by
  unfold zeroA at hz
  split at hz
  · rename_i i hi
    split at hz
    · rename_i v hv
      have hov : ofVal v = some z := by
        split at hz
        · cases hz
        · exact hz
      refine ⟨v, ?_, ofVal_rel hov, ?_, i, hi, hv⟩
      · simp only [zeroValue, typeInfo, Sem.run_bind, run_program, Result.andThen_ok, hi, Sem.run_pure, hv]
      · rcases ofVal_cells hov with h | h
        · exact h
        · subst h
          rw [hov] at hz; cases hz
    · cases hz
  · cases hz

theorem loadV_rel (hr : HR N φ h w) {L0 : Loc} {t : TypeId} {b o : Nat} (hL0 : φ b = some L0) {v : AV} (ht : okT P t = true) (hl : loadV P h t b o = some v) :
    ∃ L, φ b = some L ∧ Pu P φ w (loadVar t ⟨L.B, L.base + o, none⟩) v := by
  unfold loadV at hl
  split at hl
  · rename_i ha
    split at hl
    · rename_i l hrow
      cases hl
      obtain ⟨L, cl, hL, h1, h2, h3, h4⟩ := row_rel (P := P) hr hL0 hrow
      refine ⟨L, hL, .agg cl.toArray, ?_, VR_agg.2 ⟨_, rfl, h2⟩⟩
      simp only [loadVar, Sem.run_bind, aggT_run t ht, Result.andThen_ok, ha, if_true, sizeOf_run t ht, h1, Sem.run_pure]
    · cases hl
  · rename_i ha
    split at hl
    · rename_i n cs esz ro hb
      obtain ⟨L, cv, hL, h1, h2, h3⟩ := cell_rel hr hL0 hb hl
      refine ⟨L, hL, cv, ?_, h2⟩
      simp only [loadVar, Sem.run_bind, aggT_run t ht, Result.andThen_ok, ha, Bool.false_eq_true, if_false, run_load, h1]
    · cases hl

theorem storeV_rel (hr : HR N φ h w) {L0 : Loc} {t : TypeId} {b o : Nat} (hL0 : φ b = some L0) {v : AV} {cv : Value} (ht : okT P t = true) (hv : VR φ v cv) (hs : storeV P h t b o v = some h') :
    ∃ L, φ b = some L ∧ UOk P N φ w (storeVar t ⟨L.B, L.base + o, none⟩ cv) h' ∧ h'.nx = h.nx := by
  unfold storeV at hs
  split at hs
  · rename_i hsz
    have hsz := Nat.eq_of_beq_eq_true hsz
    obtain ⟨L, w', hL, h1, h2, h3, h4, h5⟩ := put_rel (P := P) hr hL0 hs hv.cells
    refine ⟨L, hL, ⟨φ, w', ?_, φ.le_refl, h2, h3⟩, h4⟩
    have e : cv.cells.size = P.cellsOf t := by rw [← hsz, hv.cells.length]; simp
    simp only [storeVar, Sem.run_bind, sizeOf_run t ht, Result.andThen_ok, e, ne_eq, not_true_eq_false, if_false, h1]
  · cases hs

theorem alloc_rel (hr : HR N φ h w) (hN : N ≤ w.heap.size) {l : List AV} {cv : Value} (hl : All2 (VR φ) l cv.cells.toList) (ho : ∀ a, a ∈ l → a.one = true) (t : TypeId) :
    VOk P N φ w (do pure (.pointer (some (← newVar t cv)))) (.ptr h.nx 0) (h.newCells t l) := by
  have := newCells_rel hr hN hl ho t
  refine ⟨_, .pointer (some ⟨w.heap.size, 0, none⟩), _, ?_, ?_, this.2, this.1, below_push _ hN⟩
  · simp only [newVar, newRow, Sem.run_bind, run_newObj, Result.andThen_ok, Sem.run_pure, Array.toArray_toList]
  · rw [VR_ptr]; exact ⟨_, Phi.ins_same _ _ _, by simp⟩

theorem allocOp_rel (hr : HR N φ h w) (hN : N ≤ w.heap.size) {t : TypeId} {z : AV} (hz : zeroA P t = some z) :
    VOk P N φ w (Instr.alloc t true (.tuple #[])) (.ptr h.nx 0) (h.newCells t z.cells) := by
  obtain ⟨cz, h1, h2, h3, _⟩ := zeroA_rel (w := w) (φ := φ) hz
  obtain ⟨φ', cv, w', g1, g2⟩ := alloc_rel (P := P) hr hN h2.cells h3 t
  refine ⟨φ', cv, w', ?_, g2⟩
  simp only [Instr.alloc, Sem.run_bind, h1, Result.andThen_ok]
  simpa only [Sem.run_bind] using g1

theorem boxOp_rel (hr : HR N φ h w) (hN : N ≤ w.heap.size) {t : TypeId} {v : AV} {cv : Value} (hv : VR φ v cv) (ho : allOne v.cells = true) :
    VOk P N φ w (Instr.box t cv) (.ptr h.nx 0) (h.newCells t v.cells) :=
  alloc_rel hr hN hv.cells (allOne_mem ho) t

/-! ## building -/

theorem foldSet_get : ∀ (vs : List Value) (off k : Nat) (cells : Array Value), off + k + vs.length ≤ cells.size →
    ((vs.zipIdx k).foldl (fun cs (x : Value × Nat) => cs.setIfInBounds (off + x.2) x.1) cells).size = cells.size ∧
    ∀ i, ((vs.zipIdx k).foldl (fun cs (x : Value × Nat) => cs.setIfInBounds (off + x.2) x.1) cells)[i]? = if off + k ≤ i ∧ i < off + k + vs.length then vs[i - (off + k)]? else cells[i]?
  | [], off, k, cells, _ => ⟨rfl, fun i => by simp only [List.zipIdx_nil, List.foldl_nil, List.length_nil]; rw [if_neg (by omega)]⟩
  | v :: vs, off, k, cells, hs => by
    simp only [List.length_cons] at hs
    have ih := foldSet_get vs off (k + 1) (cells.setIfInBounds (off + k) v) (by simp only [Array.size_setIfInBounds]; omega)
    simp only [List.zipIdx_cons, List.foldl_cons]
    refine ⟨by rw [ih.1]; simp, fun i => ?_⟩
    rw [ih.2 i]
    by_cases q : off + (k + 1) ≤ i ∧ i < off + (k + 1) + vs.length
    · rw [if_pos q, if_pos (by simp only [List.length_cons]; omega), show i - (off + k) = (i - (off + (k + 1))) + 1 by omega]; simp
    · rw [if_neg q, Array.getElem?_setIfInBounds]
      by_cases e : off + k = i
      · subst e; rw [if_pos rfl, if_pos (by omega), if_pos (by simp only [List.length_cons]; omega)]; simp
      · rw [if_neg e, if_neg (by simp only [List.length_cons]; omega)]

theorem splice_get {cs : List AV} {off : Nat} {new : List AV} (hs : off + new.length ≤ cs.length) (i : Nat) :
    (splice cs off new)[i]? = if off ≤ i ∧ i < off + new.length then new[i - off]? else cs[i]? := by
  unfold splice
  by_cases q : i < off
  · rw [if_neg (by omega), List.append_assoc, List.getElem?_append_left (by simp; omega)]
    simp [q]
  · by_cases q2 : i < off + new.length
    · rw [if_pos (by omega), List.getElem?_append_left (by simp; omega), List.getElem?_append_right (by simp; omega)]
      simp; congr 1; omega
    · rw [if_neg (by omega), List.getElem?_append_right (by simp; omega)]
      simp; congr 1; omega

theorem splice_length {cs : List AV} {off : Nat} {new : List AV} (hs : off + new.length ≤ cs.length) : (splice cs off new).length = cs.length := by
  unfold splice; simp; omega

theorem fillA_rel {place : Nat → Option (Nat × Nat)} : ∀ {parts : List (Nat × AV)} {cparts : List (Nat × Value)} {cells l : List AV} {cc : Array Value},
    fillA place cells parts = some l → All2 (VR φ) cells cc.toList → All2 (fun (a : Nat × AV) (b : Nat × Value) => a.1 = b.1 ∧ VR φ a.2 b.2) parts cparts →
    ∃ cl, Instr.fill place cc cparts = some cl ∧ All2 (VR φ) l cl.toList
  | [], cparts, cells, l, cc, hf, hc, hp => by
    rw [All2.nil_left] at hp; subst hp
    simp only [fillA, Option.some.injEq] at hf; subst hf
    exact ⟨cc, rfl, hc⟩
  | (i, v) :: parts, cparts, cells, l, cc, hf, hc, hp => by
    obtain ⟨⟨j, cv⟩, cr, rfl, ⟨e, hv⟩, hp'⟩ := All2.cons_left.1 hp
    simp only at e; subst e
    simp only [fillA] at hf
    split at hf
    · cases hf
    · rename_i off size hpl
      split at hf
      · rename_i hb
        simp only [Bool.and_eq_true] at hb
        have b1 := Nat.eq_of_beq_eq_true hb.1
        have b2 := Nat.le_of_ble_eq_true hb.2
        have hvc := hv.cells
        have hl1 : v.cells.length = cv.cells.size := by rw [hvc.length]; simp
        have hl2 : cells.length = cc.size := by rw [hc.length]; simp
        have fs := foldSet_get cv.cells.toList off 0 cc (by simp; omega)
        have hnew : All2 (VR φ) (splice cells off v.cells) ((cv.cells.toList.zipIdx 0).foldl (fun cs (x : Value × Nat) => cs.setIfInBounds (off + x.2) x.1) cc).toList := by
          apply All2.of_get
          · exact (splice_length b2).trans (hl2.trans (fs.1.symm.trans Array.length_toList.symm))
          · intro i a b ha hb
            rw [splice_get b2] at ha
            rw [Array.getElem?_toList, fs.2 i] at hb
            simp only [Nat.add_zero, Array.length_toList, ← hl1] at hb
            split at ha
            · rename_i q
              rw [if_pos q] at hb
              obtain ⟨c, hc1, hc2⟩ := hvc.get ha
              rw [hc1] at hb; cases hb; exact hc2
            · rename_i q
              rw [if_neg q] at hb
              obtain ⟨c, hc1, hc2⟩ := hc.get ha
              rw [Array.getElem?_toList] at hc1
              rw [hc1] at hb; cases hb; exact hc2
        obtain ⟨cl, h1, h2⟩ := fillA_rel hf hnew hp'
        refine ⟨cl, ?_, h2⟩
        simp only [Instr.fill, hpl]
        have hcond : (decide (cv.cells.size ≠ size) || decide (off + cv.cells.size > cc.size)) = false := by
          simp only [Bool.or_eq_false_iff, decide_eq_false_iff_not]; omega
        rw [if_neg (by simpa using hcond)]
        rw [← Array.foldl_toList, Array.toList_zipIdx]
        exact h1
      · cases hf

theorem mapM_places {fields : Array Field} (hok : fields.toList.all (fun f => okT P f.type) = true) :
    (fields.mapM fun f => (do pure (f.offset, ← sizeOf f.type) : Sem (Nat × Nat))).run P w = .ok (fields.map fun f => (f.offset, P.cellsOf f.type)) w := by
  rw [Array.mapM_eq_mapM_toList, Sem.run_map]
  have : ∀ l : List Field, l.all (fun f => okT P f.type) = true → (l.mapM fun f => (do pure (f.offset, ← sizeOf f.type) : Sem (Nat × Nat))).run P w = .ok (l.map fun f => (f.offset, P.cellsOf f.type)) w := by
    intro l
    induction l with
    | nil => intro _; rfl
    | cons f l ih =>
      intro hl
      simp only [List.all_cons, Bool.and_eq_true] at hl
      simp only [List.mapM_cons, Sem.run_bind, sizeOf_run f.type hl.1, Result.andThen_ok, Sem.run_pure, ih hl.2, List.map_cons]
  rw [this _ hok]
  simp only [Result.andThen_ok]
  congr 1
  apply Array.ext'
  simp

theorem buildA_rel {t : TypeId} {parts : List (Nat × AV)} {cparts : Array (Nat × Value)} {v : AV} (hb : buildA P t parts = some v)
    (hp : All2 (fun (a : Nat × AV) (b : Nat × Value) => a.1 = b.1 ∧ VR φ a.2 b.2) parts cparts.toList) : Pu P φ w (Instr.build t cparts) v := by
  unfold buildA at hb
  split at hb
  · rename_i z fields hz hu
    obtain ⟨cz, h1, h2, h3, _⟩ := zeroA_rel (w := w) (φ := φ) hz
    split at hb
    · cases hb
    · rename_i hok
      split at hb
      · rename_i l hf
        cases hb
        have hpl : placeOf P fields.toList = fun i => (fields.map fun (f : Field) => (f.offset, P.cellsOf f.type))[i]? := by
          funext i
          rw [Array.getElem?_map, placeOf, Array.getElem?_toList]
          cases fields[i]? <;> rfl
        rw [hpl] at hf
        obtain ⟨cl, g1, g2⟩ := fillA_rel hf h2.cells hp
        refine ⟨.agg cl, ?_, VR_agg.2 ⟨_, rfl, g2⟩⟩
        simp only [Instr.build, Sem.run_bind, h1, Result.andThen_ok, run_underlying hu, mapM_places hok]
        simp only [g1, Sem.run_pure]
      · cases hb
  · rename_i z n elem hz hu
    obtain ⟨cz, h1, h2, h3, _⟩ := zeroA_rel (w := w) (φ := φ) hz
    simp only at hb
    split at hb
    · cases hb
    · rename_i hok
      split at hb
      · rename_i l hf
        cases hb
        obtain ⟨cl, g1, g2⟩ := fillA_rel hf h2.cells hp
        refine ⟨.agg cl, ?_, VR_agg.2 ⟨_, rfl, g2⟩⟩
        simp only [Instr.build, Sem.run_bind, h1, Result.andThen_ok, run_underlying hu, sizeOf_run elem hok, g1, Sem.run_pure]
      · cases hb
  · cases hb

theorem repl_length (l : List AV) : ∀ n, (repl l n).length = n * l.length
  | 0 => by simp [repl]
  | n + 1 => by
    have e : (n + 1) * l.length = n * l.length + l.length := Nat.succ_mul _ _
    rw [e, repl, List.length_append, repl_length l n, Nat.add_comm]

theorem mod_sub_self' {i m : Nat} (h : m ≤ i) : i % m = (i - m) % m := Nat.mod_eq_sub_mod h

theorem repl_get (l : List AV) : ∀ (n i : Nat), i < n * l.length → (repl l n)[i]? = l[i % l.length]?
  | 0, i, h => by simp at h
  | n + 1, i, h => by
    have hpos : 0 < l.length := by
      rcases Nat.eq_zero_or_pos l.length with e | e
      · rw [e] at h; simp at h
      · exact e
    simp only [repl]
    by_cases q : i < l.length
    · rw [List.getElem?_append_left q, Nat.mod_eq_of_lt q]
    · have h' : i - l.length < n * l.length := by
        have e : (n + 1) * l.length = n * l.length + l.length := Nat.succ_mul _ _
        rw [e] at h; omega
      rw [List.getElem?_append_right (by omega), repl_get l n (i - l.length) h', mod_sub_self' (Nat.le_of_not_lt q)]

theorem range_repl {zs : List AV} {zero : Array Value} (hz : All2 (VR φ) zs zero.toList) (n : Nat) :
    All2 (VR φ) (repl zs n) ((Array.range (n * zero.size)).map (fun i => zero[i % zero.size]!)).toList := by
  have hl : zs.length = zero.size := by rw [hz.length]; simp
  apply All2.of_get
  · rw [repl_length, hl]; simp
  · intro i a b ha hb
    have hi : i < n * zs.length := by rw [← repl_length]; exact (List.getElem?_eq_some_iff.1 ha).1
    rw [repl_get _ _ _ hi] at ha
    obtain ⟨c, hc, hR⟩ := hz.get ha
    have hb' : b = zero[i % zero.size]! := by
      have := List.getElem?_eq_some_iff.1 hb
      obtain ⟨h1, h2⟩ := this
      simp at h2
      exact h2.symm
    rw [hl, Array.getElem?_toList] at hc
    obtain ⟨h1, h2⟩ := Array.getElem?_eq_some_iff.1 hc
    rw [hb', getElem!_pos zero _ h1, h2]
    exact hR

theorem range_zero (f : Nat → Value) : ((Array.range 0).map f) = #[] := by simp

theorem buildSliceA_rel (hr : HR N φ h w) (hN : N ≤ w.heap.size) {t : TypeId} {len : Nat} {parts : List (Nat × AV)} {cparts : Array (Nat × Value)} {v : AV} (hb : buildSliceA P t len parts h = .val v h')
    (hp : All2 (fun (a : Nat × AV) (b : Nat × Value) => a.1 = b.1 ∧ VR φ a.2 b.2) parts cparts.toList) : VOk P N φ w (Instr.buildSlice t len cparts) v h' := by
  unfold buildSliceA at hb
  split at hb
  · rename_i elem hu
    simp only at hb
    split at hb
    · rename_i z hok hsm hz
      split at hb
      · rename_i l hbeq hf
        split at hb
        · rename_i hone
          cases hb
          have hbeq := Nat.eq_of_beq_eq_true hbeq
          obtain ⟨cz, h1, h2, h3, _⟩ := zeroA_rel (w := w) (φ := φ) hz
          have hsz : cz.cells.size = P.cellsOf elem := by rw [← hbeq, h2.cells.length]; simp
          have hrel := range_repl h2.cells len
          obtain ⟨cl, g1, g2⟩ := fillA_rel hf hrel hp
          have hnew := newCells_rel hr hN g2 (allOne_mem hone) elem
          have hle : len * P.cellsOf elem ≤ 4194304 := Nat.le_of_ble_eq_true hsm
          refine ⟨_, .slice (some ⟨w.heap.size, 0, none⟩) len len, _, ?_, ?_, hnew.2, hnew.1, below_push _ hN⟩
          · have c1 : ¬ (len * P.cellsOf elem > 2 ^ 24) := by omega
            simp only [Instr.buildSlice, Sem.run_bind, run_underlying hu, Result.andThen_ok, sizeOf_run elem hok, c1, if_false]
            by_cases e0 : len * P.cellsOf elem = 0
            · rw [hsz, e0, range_zero] at g1
              simp only [e0, if_true, Sem.run_bind, Sem.run_pure, Result.andThen_ok, range_zero, g1, newRow, run_newObj, Array.toArray_toList]
            · simp only [e0, if_false, Sem.run_bind, h1, Result.andThen_ok, Sem.run_pure]
              rw [hsz] at g1
              rw [hsz]
              simp only [g1, newRow, Sem.run_bind, run_newObj, Result.andThen_ok, Sem.run_pure, Array.toArray_toList]
          · rw [VR_sliceEx]; exact ⟨_, Phi.ins_same _ _ _, by simp⟩
        · cases hb
      · cases hb
    · cases hb
  · cases hb

end
end Go.AX

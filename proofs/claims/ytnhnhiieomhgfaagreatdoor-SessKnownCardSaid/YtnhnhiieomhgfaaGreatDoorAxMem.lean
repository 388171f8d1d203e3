/-
  AX: memory: rows are read, written, made.
-/
import Derived.Test.YtnhnhiieomhgfaaGreatDoorAxRel
import Derived.Laws.Cells
namespace Go.AX
open Go.RowKit

@[simp] theorem add_none (B o n : Nat) : (⟨B, o, none⟩ : Addr).add n = ⟨B, o + n, none⟩ := by
  unfold Addr.add; split
  · rename_i h; subst h; rfl
  · rfl

def setB (w : World) (B : Nat) (o : Obj) : World := { w with heap := w.heap.setIfInBounds B o }

theorem setB_get {w : World} {B : Nat} {o : Obj} (h : B < w.heap.size) (k : Nat) : (setB w B o).heap[k]? = if k = B then some o else w.heap[k]? := by
  simp only [setB, Array.getElem?_setIfInBounds]
  by_cases e : B = k
  · subst e; simp [h]
  · rw [if_neg e, if_neg (fun x => e x.symm)]

theorem setB_size {w : World} {B : Nat} {o : Obj} : (setB w B o).heap.size = w.heap.size := by simp [setB]

theorem setB_setB {w : World} {B : Nat} {o o' : Obj} : setB (setB w B o) B o' = setB w B o' := by
  simp [setB]

theorem setB_self {w : World} {B : Nat} {o : Obj} (h : w.heap[B]? = some o) : setB w B o = w := by
  obtain ⟨hlt, e⟩ := Array.getElem?_eq_some_iff.1 h
  have : w.heap.setIfInBounds B o = w.heap := by
    apply Array.ext_getElem?
    intro k
    rw [Array.getElem?_setIfInBounds]
    split
    · rename_i q; subst q; exact h.symm
    · rfl
  unfold setB; rw [this]

theorem below_setB {N : Nat} {w : World} {B : Nat} (o : Obj) (h : N ≤ B) : Below N w (setB w B o) :=
  ⟨rfl, rfl, rfl, by rw [setB_size]; exact Nat.le_refl _, fun k hk => by
    simp only [setB, Array.getElem?_setIfInBounds]; rw [if_neg (by omega)]⟩

theorem setCell_eq {w : World} {B off : Nat} {c : Array Value} {t : TypeId} {frz : Nat × Nat} (h : w.heap[B]? = some (.cells c t frz)) (v : Value) :
    w.setCell ⟨B, off, none⟩ v = setB w B (.cells (c.setIfInBounds off v) t frz) := by
  obtain ⟨hlt, e⟩ := Array.getElem?_eq_some_iff.1 h
  have : (w.heap.modify B fun
      | .cells c elem frozen => .cells (if (none : Option Nat).isSome then c else c.setIfInBounds off v) elem frozen
      | o => o) = w.heap.setIfInBounds B (.cells (c.setIfInBounds off v) t frz) := by
    apply Array.ext_getElem?
    intro k
    rw [Array.getElem?_setIfInBounds, Array.getElem?_modify]
    by_cases q : B = k
    · subst q; rw [if_pos rfl, if_pos rfl, if_pos hlt, h]; simp
    · rw [if_neg q, if_neg q]
  unfold World.setCell setB
  exact congrArg (fun x => ({ w with heap := x } : World)) this

theorem cell_eq {w : World} {B off : Nat} {c : Array Value} {t : TypeId} {frz : Nat × Nat} (h : w.heap[B]? = some (.cells c t frz)) :
    w.cell? ⟨B, off, none⟩ = c[off]? := by
  simp [World.cell?, h]

theorem frozen_eq {w : World} {B off : Nat} {c : Array Value} {t : TypeId} {frz : Nat × Nat} (h : w.heap[B]? = some (.cells c t frz)) :
    w.frozen? ⟨B, off, none⟩ = (frz.1 ≤ off && off < frz.2) := by
  simp [World.frozen?, h]

theorem run_storeCells (P : Program) {B base : Nat} {t : TypeId} {frz : Nat × Nat} : ∀ (vs : List Value) (i : Nat) (w : World) (c : Array Value),
    w.heap[B]? = some (.cells c t frz) → (∀ j, j < vs.length → base + i + j < c.size ∧ ¬ (frz.1 ≤ base + i + j ∧ base + i + j < frz.2)) →
    (∀ v, v ∈ vs → v.oneCell' = true) →
    ∃ c', (storeCells ⟨B, base, none⟩ vs i).run P w = .ok () (setB w B (.cells c' t frz)) ∧ c'.size = c.size ∧
      ∀ k, c'[k]? = if base + i ≤ k ∧ k < base + i + vs.length then vs[k - (base + i)]? else c[k]?
  | [], i, w, c, h, _, _ => by
    refine ⟨c, ?_, rfl, fun k => ?_⟩
    · rw [setB_self h]; rfl
    · rw [if_neg (by simp only [List.length_nil]; omega)]
  | v :: vs, i, w, c, h, hb, ho => by
    have h0 := hb 0 (by simp)
    simp only [Nat.add_zero] at h0
    have hlt : B < w.heap.size := (Array.getElem?_eq_some_iff.1 h).1
    have hst : (store ((⟨B, base, none⟩ : Addr).add i) v).run P w = .ok () (setB w B (.cells (c.setIfInBounds (base + i) v) t frz)) := by
      rw [add_none, run_store P w _ v .plain (ho v (by simp)), cell_eq h, Array.getElem?_eq_getElem h0.1, frozen_eq h]
      have : (decide (frz.1 ≤ base + i) && decide (base + i < frz.2)) = false := by
        simp only [Bool.and_eq_false_iff, decide_eq_false_iff_not]; omega
      simp only [this, if_false, Bool.false_eq_true, setCell_eq h]
    have h1 : (setB w B (.cells (c.setIfInBounds (base + i) v) t frz)).heap[B]? = some (.cells (c.setIfInBounds (base + i) v) t frz) := by
      rw [setB_get hlt, if_pos rfl]
    obtain ⟨c', hr, hs, hc⟩ := run_storeCells P vs (i + 1) _ _ h1
      (fun j hj => by have := hb (j + 1) (by simp; omega); simp only [Array.size_setIfInBounds]; rw [show base + (i + 1) + j = base + i + (j + 1) by omega]; exact this)
      (fun x hx => ho x (by simp [hx]))
    refine ⟨c', ?_, by rw [hs, Array.size_setIfInBounds], fun k => ?_⟩
    · simp only [storeCells, Sem.run_bind, hst, Result.andThen_ok, hr, setB_setB]
    · rw [hc k]
      by_cases q : base + (i + 1) ≤ k ∧ k < base + (i + 1) + vs.length
      · rw [if_pos q, if_pos (by simp only [List.length_cons]; omega), show k - (base + i) = (k - (base + (i + 1))) + 1 by omega]; simp
      · rw [if_neg q, Array.getElem?_setIfInBounds]
        by_cases e : base + i = k
        · subst e; rw [if_pos rfl, if_pos h0.1, if_pos (by simp only [List.length_cons]; omega)]; simp
        · rw [if_neg e, if_neg (by simp only [List.length_cons]; omega)]

/-! ## the evaluator's rows -/

theorem putCells_get : ∀ {l : List AV} {cs cs' : T AV} {o : Nat}, H.putCells cs o l = some cs' →
    (∀ i, cs'.get i = if o ≤ i ∧ i < o + l.length then l[i - o]? else cs.get i) ∧ (∀ i, o ≤ i → i < o + l.length → cs.get i ≠ none) ∧ (∀ a, a ∈ l → a.one = true)
  | [], cs, cs', o, h => by
    simp only [H.putCells, Option.some.injEq] at h; subst h
    exact ⟨fun i => by rw [if_neg (by simp only [List.length_nil]; omega)], fun i h1 h2 => by simp at h2; omega, by simp⟩
  | v :: l, cs, cs', o, h => by
    simp only [H.putCells] at h
    split at h
    · rename_i u hone hget
      obtain ⟨h1, h2, h3⟩ := putCells_get h
      refine ⟨fun i => ?_, fun i hi hj => ?_, fun a ha => ?_⟩
      · rw [h1 i]
        by_cases q : o + 1 ≤ i ∧ i < o + 1 + l.length
        · rw [if_pos q, if_pos (by simp only [List.length_cons]; omega), show i - o = (i - (o + 1)) + 1 by omega]; simp
        · rw [if_neg q, T.get_set]
          by_cases e : i = o
          · subst e; rw [if_pos rfl, if_pos (by simp only [List.length_cons]; omega)]; simp
          · rw [if_neg e, if_neg (by simp only [List.length_cons]; omega)]
      · by_cases e : i = o
        · subst e; rw [hget]; simp
        · have := h2 i (by omega) (by simp only [List.length_cons] at hj; omega)
          rw [T.get_set, if_neg e] at this; exact this
      · rcases List.mem_cons.1 ha with rfl | ha
        · exact hone
        · exact h3 a ha
    · cases h

section
variable {P : Program} {N : NN} {φ : Phi} {h h' : H} {w : World}

theorem loadCells_rel {L : Loc} {n : Nat} {cs : T AV} {esz : EK} {ro : Bool} (ho : OR φ N L w (.cells n cs esz ro)) :
    ∀ (k o : Nat) (l : List AV), H.loadCells cs o k = some l →
      ∃ cl : List Value, All2 (VR φ) l cl ∧ cl.length = k ∧ (∀ j v, cl[j]? = some v → w.cell? ⟨L.B, L.base + o + j, none⟩ = some v) ∧ (∀ a, a ∈ l → a.one = true)
  | 0, o, l, hl => by
    simp only [H.loadCells, Option.some.injEq] at hl; subst hl
    exact ⟨[], trivial, rfl, by simp, by simp⟩
  | k + 1, o, l, hl => by
    simp only [H.loadCells] at hl
    split at hl
    · cases hl
    · rename_i v hv
      split at hl
      · cases hl
      · rename_i l' hl'
        cases hl
        obtain ⟨cl, h1, h2, h3, h4⟩ := loadCells_rel ho k (o + 1) l' hl'
        obtain ⟨c, t, frz, g1, g2, g3, g4, g5⟩ := ho
        obtain ⟨g6, g7, cv, g8, g9⟩ := g3 o v hv
        refine ⟨cv :: cl, ⟨g9, h1⟩, by simp [h2], fun j x hj => ?_, fun a ha => ?_⟩
        · cases j with
          | zero => simp only [List.getElem?_cons_zero, Option.some.injEq] at hj; subst hj; rw [Nat.add_zero, cell_eq g1, g8]
          | succ j =>
            simp only [List.getElem?_cons_succ] at hj
            have := h3 j x hj
            rwa [show L.base + (o + 1) + j = L.base + o + (j + 1) by omega] at this
        · rcases List.mem_cons.1 ha with rfl | ha
          · exact g7
          · exact h4 a ha

theorem loadCells_length {cs : T AV} : ∀ {k o : Nat} {l : List AV}, H.loadCells cs o k = some l → l.length = k
  | 0, _, _, h => by simp only [H.loadCells, Option.some.injEq] at h; subst h; rfl
  | k + 1, o, l, h => by
    simp only [H.loadCells] at h
    split at h
    · cases h
    · split at h
      · cases h
      · rename_i l' hl'; cases h; simp [loadCells_length hl']

theorem row_rel (hr : HR N φ h w) {b o k : Nat} {L0 : Loc} (hL0 : φ b = some L0) {l : List AV} (hl : h.row b o k = some l) :
    ∃ L cl, φ b = some L ∧ (loadCells ⟨L.B, L.base + o, none⟩ k).run P w = .ok cl.toArray w ∧ All2 (VR φ) l cl ∧ cl.length = k ∧ (∀ a, a ∈ l → a.one = true) := by
  unfold H.row at hl
  split at hl
  · rename_i n cs esz ro hb
    obtain ⟨L, hL, ho⟩ := hr.obj _ _ hb (hr.unres hL0)
    obtain ⟨cl, h1, h2, h3, h4⟩ := loadCells_rel ho k o l hl
    refine ⟨L, cl, hL, ?_, h1, h2, h4⟩
    have := run_loadCells_list (P := P) w ⟨L.B, L.base + o, none⟩ cl (fun j v hj => by rw [add_none]; exact h3 j v hj)
    rw [h2] at this; exact this
  · cases hl

theorem cell_rel (hr : HR N φ h w) {b o n : Nat} {L0 : Loc} (hL0 : φ b = some L0) {cs : T AV} {esz : EK} {ro : Bool} {v : AV} (hb : h.t.get b = some (.cells n cs esz ro)) (hv : cs.get o = some v) :
    ∃ L cv, φ b = some L ∧ w.cell? ⟨L.B, L.base + o, none⟩ = some cv ∧ VR φ v cv ∧ v.one = true := by
  obtain ⟨L, hL, c, t, frz, g1, g2, g3, g4, g5⟩ := hr.obj _ _ hb (hr.unres hL0)
  obtain ⟨g6, g7, cv, g8, g9⟩ := g3 o v hv
  exact ⟨L, cv, hL, by rw [cell_eq g1, g8], g9, g7⟩

theorem put_rel (hr : HR N φ h w) {b o : Nat} {L0 : Loc} (hL0 : φ b = some L0) {l : List AV} {cl : List Value} (hp : h.put b o l = some h') (hl : All2 (VR φ) l cl) :
    ∃ L w', φ b = some L ∧ (storeCells ⟨L.B, L.base + o, none⟩ cl).run P w = .ok () w' ∧ HR N φ h' w' ∧ Below N w w' ∧ h'.nx = h.nx ∧ w'.heap.size = w.heap.size := by
  unfold H.put at hp
  split at hp
  · rename_i n cs esz hb
    split at hp
    · rename_i cs' hcs
      cases hp
      obtain ⟨L, hL, ho⟩ := hr.obj _ _ hb (hr.unres hL0)
      obtain ⟨p1, p2, p3⟩ := putCells_get hcs
      have ho' := ho
      obtain ⟨c, t, frz, g1, g2, g3, g4, g5⟩ := ho
      obtain ⟨hN, hfr⟩ := g4 rfl
      have hlen := hl.length
      have hlt := ho'.lt
      have hin : ∀ j, j < cl.length → o + j < n := by
        intro j hj
        have := p2 (o + j) (by omega) (by omega)
        cases hg : cs.get (o + j) with
        | none => exact absurd hg this
        | some v => exact (g3 _ _ hg).1
      obtain ⟨c', r1, r2, r3⟩ := run_storeCells P (B := L.B) (base := L.base + o) (t := t) (frz := frz) cl 0 w c g1
        (fun j hj => by have := hin j hj; exact ⟨by omega, hfr _ (by omega)⟩)
        (fun v hv => by
          obtain ⟨i, hi⟩ := List.getElem?_of_mem hv
          obtain ⟨a, ha, hR⟩ := hl.get' hi
          exact hR.one (p3 a (List.mem_of_getElem? ha)))
      refine ⟨L, _, hL, r1, ?_, below_setB _ hN, rfl, setB_size⟩
      refine hr.set hb hL _ (fun k hk => by rw [setB_get hlt, if_neg hk]) ?_
      refine ⟨c', t, frz, by rw [setB_get hlt, if_pos rfl], by rw [r2]; exact g2, fun i v hi => ?_, fun _ => ⟨hN, by rw [r2]; exact hfr⟩, ⟨fun he => by rw [r2]; exact g5.1 he, g5.2⟩⟩
      rw [p1 i] at hi
      split at hi
      · rename_i q
        obtain ⟨cv, hcv, hR⟩ := hl.get hi
        refine ⟨by have := hin (i - o) (by omega); omega, p3 v (List.mem_of_getElem? hi), cv, ?_, hR⟩
        rw [r3, if_pos (by omega), show L.base + i - (L.base + o + 0) = i - o by omega]; exact hcv
      · rename_i q
        obtain ⟨q1, q2, cv, q3, q4⟩ := g3 i v hi
        refine ⟨q1, q2, cv, ?_, q4⟩
        rw [r3, if_neg (by omega)]; exact q3
    · cases hp
  · cases hp

theorem below_push {N : Nat} {w : World} (O : Obj) (h : N ≤ w.heap.size) : Below N w { w with heap := w.heap.push O } :=
  ⟨rfl, rfl, rfl, by simp, fun k hk => by show (w.heap.push O)[k]? = _; rw [Array.getElem?_push, if_neg (by omega)]⟩

/-- A new row of cells. -/
theorem newCells_rel (hr : HR N φ h w) (hN : N ≤ w.heap.size) {l : List AV} {cl : List Value} (hl : All2 (VR φ) l cl) (ho : ∀ a, a ∈ l → a.one = true) (t : TypeId) :
    HR N (φ.ins h.nx ⟨w.heap.size, 0, 0⟩) (h.newCells t l) { w with heap := w.heap.push (.cells cl.toArray t) } ∧ φ.le (φ.ins h.nx ⟨w.heap.size, 0, 0⟩) := by
  have hle : φ.le (φ.ins h.nx ⟨w.heap.size, 0, 0⟩) := Phi.le_ins _ (hr.lt _ (Nat.le_refl _))
  refine hr.push (.cells cl.toArray t) 0 0 _ rfl ?_
  refine ⟨cl.toArray, t, (0, 0), by simp, by simp [hl.length], fun i v hi => ?_, fun _ => ⟨hN, by simp⟩, ⟨fun e => absurd rfl e, fun _ => rfl, fun _ => rfl⟩⟩
  rw [T.get_fill0] at hi
  obtain ⟨cv, hcv, hR⟩ := hl.get hi
  have hi' := (List.getElem?_eq_some_iff.1 hi).1
  exact ⟨hi', ho v (List.mem_of_getElem? hi), cv, by simpa using hcv, hR.le hle⟩

end
end Go.AX

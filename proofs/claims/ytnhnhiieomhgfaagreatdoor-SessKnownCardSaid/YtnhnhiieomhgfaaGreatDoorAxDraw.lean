/-
  AX: regions whose order is drawn: every order that may be drawn holds all operations, each behind those that it must come behind.
-/
import Derived.Test.YtnhnhiieomhgfaaGreatDoorAxMach
namespace Go.AX
open Go.RowKit

theorem memB_iff {n : Nat} : ∀ {l : List Nat}, memB n l = true ↔ n ∈ l
  | [] => by simp [memB]
  | m :: l => by
    simp only [memB, List.mem_cons]
    cases h : Nat.beq n m
    · have := Nat.ne_of_beq_eq_false h
      simp only [this, false_or]
      exact memB_iff
    · have := Nat.eq_of_beq_eq_true h
      simp [this]

theorem subB_iff {B : List Nat} : ∀ {l : List Nat}, subB B l = true ↔ ∀ e, e ∈ l → e ∈ B
  | [] => by simp [subB]
  | m :: l => by
    simp only [subB, List.mem_cons, forall_eq_or_imp]
    cases h : memB m B
    · simp only [Bool.false_eq_true, false_iff, not_and]
      intro h2; rw [memB_iff.2 h2] at h; cases h
    · simp only [memB_iff.1 h, true_and]; exact subB_iff

theorem anyB_iff {B : List Nat} : ∀ {l : List Nat}, anyB B l = true → ∃ e, e ∈ l ∧ e ∈ B
  | [], h => by simp [anyB] at h
  | m :: l, h => by
    simp only [anyB] at h
    split at h
    · rename_i hm; exact ⟨m, by simp, memB_iff.1 hm⟩
    · obtain ⟨e, h1, h2⟩ := anyB_iff h; exact ⟨e, by simp [h1], h2⟩

theorem edgesOf_mem {e : Nat} : ∀ {l : List Edge}, e ∈ edgesOf l ↔ ∃ x, x ∈ l ∧ Region.binds .any x = true ∧ x.on = e
  | [] => by simp [edgesOf]
  | x :: l => by
    simp only [edgesOf]
    split
    · rename_i hb
      simp only [List.mem_cons, edgesOf_mem (l := l)]
      constructor
      · rintro (rfl | ⟨y, h1, h2⟩)
        · exact ⟨x, .inl rfl, hb, rfl⟩
        · exact ⟨y, .inr h1, h2⟩
      · rintro ⟨y, rfl | h1, h2⟩
        · exact .inl h2.2.symm
        · exact .inr ⟨y, h1, h2⟩
    · rename_i hb
      simp only [List.mem_cons, edgesOf_mem (l := l)]
      constructor
      · rintro ⟨y, h1, h2⟩; exact ⟨y, .inr h1, h2⟩
      · rintro ⟨y, rfl | h1, h2⟩
        · rw [h2.1] at hb; cases hb
        · exact ⟨y, h1, h2⟩

theorem idxd_mem {p : Nat × Oper} : ∀ {l : List Oper} {i : Nat}, p ∈ idxd i l ↔ i ≤ p.1 ∧ l[p.1 - i]? = some p.2
  | [], i => by simp [idxd]
  | o :: l, i => by
    simp only [idxd, List.mem_cons, idxd_mem (l := l)]
    constructor
    · rintro (rfl | ⟨h1, h2⟩)
      · simp
      · refine ⟨by omega, ?_⟩
        rw [show p.1 - i = (p.1 - (i + 1)) + 1 by omega]; simpa using h2
    · rintro ⟨h1, h2⟩
      by_cases e : p.1 = i
      · left
        rw [e, Nat.sub_self] at h2
        simp at h2
        obtain ⟨a, b⟩ := p
        simp only at e h2
        rw [e, h2]
      · right
        refine ⟨by omega, ?_⟩
        rw [show p.1 - i = (p.1 - (i + 1)) + 1 by omega] at h2; simpa using h2

theorem idxd0 {ops : Array Oper} {p : Nat × Oper} : p ∈ idxd 0 ops.toList ↔ ops[p.1]? = some p.2 := by
  rw [idxd_mem]; simp

theorem dstOf_eq {ops : Array Oper} {j : Nat} {o : Oper} (h : ops[j]? = some o) : dstOf ops j = o.dst := by
  unfold dstOf; rw [Array.getElem?_toList, h]

/-! ## the order that is drawn -/

theorem nodup_sub : ∀ {l m : List Nat}, l.Nodup → (∀ x, x ∈ l → x ∈ m) → l.length ≤ m.length
  | [], m, _, _ => by simp
  | x :: l, m, hn, hs => by
    obtain ⟨h1, h2⟩ := List.nodup_cons.1 hn
    have hx := hs x (by simp)
    have := nodup_sub (m := m.erase x) h2 (fun y hy => (List.mem_erase_of_ne (fun e : y = x => h1 (by rw [← e]; exact hy))).2 (hs y (by simp [hy])))
    rw [List.length_erase_of_mem hx] at this
    have hpos : 0 < m.length := List.length_pos_iff.2 (fun e => by rw [e] at hx; cases hx)
    simp only [List.length_cons]; omega

theorem nodup_all {n : Nat} {l : List Nat} (hn : l.Nodup) (hlt : ∀ x, x ∈ l → x < n) (hlen : l.length = n) {i : Nat} (hi : i < n) : i ∈ l := by
  apply Classical.byContradiction
  intro h
  have := nodup_sub (l := i :: l) (m := List.range n) (List.nodup_cons.2 ⟨h, hn⟩) (fun x hx => by
    simp only [List.mem_cons] at hx
    rcases hx with rfl | hx
    · exact List.mem_range.2 hi
    · exact List.mem_range.2 (hlt x hx))
  simp only [List.length_cons, List.length_range] at this; omega

/-- Each comes behind those that it must come behind. -/
def Ord (ops : Array Oper) : List Nat → Prop
  | [] => True
  | x :: b => (∀ o, ops[x]? = some o → ∀ e, e ∈ edgesOf o.after.toList → e ∈ b) ∧ Ord ops b

theorem topo_ready {S : List Nat} : ∀ {l : List (Nat × Oper)} {done : List Nat}, topoB done l = true → (∀ x, x ∈ done → x ∈ S) → (∃ p, p ∈ l ∧ p.1 ∉ S) →
    ∃ p, p ∈ l ∧ p.1 ∉ S ∧ ∀ e, e ∈ edgesOf p.2.after.toList → e ∈ S
  | [], _, _, _, ⟨p, h, _⟩ => by simp at h
  | (i, o) :: l, done, h, hs, ⟨p, hp, hn⟩ => by
    simp only [topoB] at h
    split at h
    · rename_i hc
      simp only [Bool.and_eq_true] at hc
      have hsub := subB_iff.1 hc.2
      by_cases hi : i ∈ S
      · obtain ⟨q, q1, q2, q3⟩ := topo_ready (S := S) h (fun x hx => by
          simp only [List.mem_cons] at hx
          rcases hx with rfl | hx
          · exact hi
          · exact hs x hx) (by
          refine ⟨p, ?_, hn⟩
          simp only [List.mem_cons] at hp
          rcases hp with rfl | hp
          · exact absurd hi hn
          · exact hp)
        exact ⟨q, by simp [q1], q2, q3⟩
      · exact ⟨(i, o), by simp, hi, fun e he => hs e (hsub e he)⟩
    · cases h

section
variable {ops : Array Oper}

theorem go_order {rem : List (Nat × Oper)} (ht : topoB [] rem = true) (hr : ∀ p, p ∈ rem → ops[p.1]? = some p.2) (ha : ∀ i, i < ops.size → ∃ p, p ∈ rem ∧ p.1 = i) :
    ∀ (fuel t : Nat) (listed : Array Bool) (acc : List Nat), listed.size = ops.size → (∀ i, i < ops.size → (listed.getD i false = true ↔ i ∈ acc)) → (∀ i, i ∈ acc → i < ops.size) → acc.Nodup → acc.length + fuel = ops.size → Ord ops acc →
    ∃ res : List Nat, Region.linearise.go .any ops fuel t listed acc = res.reverse ∧ (∀ i, i < ops.size → i ∈ res) ∧ (∀ i, i ∈ res → i < ops.size) ∧ res.Nodup ∧ Ord ops res
  | 0, t, listed, acc, hsz, hl, hlt, hnd, hlen, hord => by
    refine ⟨acc, rfl, fun i hi => ?_, hlt, hnd, hord⟩
    exact nodup_all hnd hlt (by omega) hi
  | fuel + 1, t, listed, acc, hsz, hl, hlt, hnd, hlen, hord => by
    unfold Region.linearise.go
    obtain ⟨rs, hrs⟩ : ∃ rs, rs = (List.range ops.size).filter fun i => !listed.getD i true && ((ops[i]?).map (·.after.all fun e => !Region.binds .any e || listed.getD e.on false)).getD false := ⟨_, rfl⟩
    simp only [← hrs]
    have hne : rs ≠ [] := by
      -- some is not listed
      have hex : ∃ i, i < ops.size ∧ i ∉ acc := by
        apply Classical.byContradiction
        intro hcon
        have hall : ∀ i, i < ops.size → i ∈ acc := fun i hi => Classical.byContradiction fun hx => hcon ⟨i, hi, hx⟩
        have := nodup_sub (List.nodup_range (n := ops.size)) (fun x hx => hall x (List.mem_range.1 hx))
        simp only [List.length_range] at this; omega
      obtain ⟨i, hi, hin⟩ := hex
      obtain ⟨p, hp, hpi⟩ := ha i hi
      obtain ⟨q, q1, q2, q3⟩ := topo_ready (S := acc) ht (by simp) ⟨p, hp, by rw [hpi]; exact hin⟩
      have hq := hr q q1
      have hqlt : q.1 < ops.size := (Array.getElem?_eq_some_iff.1 hq).1
      have : q.1 ∈ rs := by
        rw [hrs, List.mem_filter]
        refine ⟨List.mem_range.2 hqlt, ?_⟩
        simp only [Bool.and_eq_true, Bool.not_eq_true', hq, Option.map_some, Option.getD_some, Array.all_eq_true_iff_forall_mem, Bool.or_eq_true]
        constructor
        · have h1 : ¬ (listed.getD q.1 false = true) := fun x => q2 ((hl _ hqlt).1 x)
          have h2 : listed.getD q.1 true = listed.getD q.1 false := by
            rw [Array.getD_eq_getD_getElem?, Array.getD_eq_getD_getElem?, Array.getElem?_eq_getElem (by omega)]; rfl
          rw [h2]; simpa using h1
        · intro e he
          cases hb : Region.binds .any e
          · left; rfl
          · right
            have hm := q3 e.on (edgesOf_mem.2 ⟨e, by simpa using he, hb, rfl⟩)
            exact (hl _ (hlt _ hm)).2 hm
      intro e; rw [e] at this; cases this
    have hpos : 0 < rs.length := List.length_pos_iff.2 hne
    have hin : t % rs.length < rs.length := Nat.mod_lt _ hpos
    rw [List.getElem?_eq_getElem hin]
    simp only
    have hmem := List.getElem_mem hin
    obtain ⟨i, hi⟩ : ∃ i, i = rs[t % rs.length] := ⟨_, rfl⟩
    rw [← hi] at hmem ⊢
    rw [hrs, List.mem_filter] at hmem
    obtain ⟨m1, m2⟩ := hmem
    have m1 := List.mem_range.1 m1
    simp only [Bool.and_eq_true, Bool.not_eq_true'] at m2
    have hni : i ∉ acc := by
      intro hx
      have := (hl i m1).2 hx
      have h2 : listed.getD i true = listed.getD i false := by
        rw [Array.getD_eq_getD_getElem?, Array.getD_eq_getD_getElem?, Array.getElem?_eq_getElem (by omega)]; rfl
      rw [h2, this] at m2; exact absurd m2.1 (by simp)
    refine go_order ht hr ha fuel _ _ _ (by simp [hsz]) (fun j hj => ?_) (fun j hj => ?_) (List.nodup_cons.2 ⟨hni, hnd⟩) (by simp only [List.length_cons]; omega) ⟨?_, hord⟩
    · rw [Array.getD_eq_getD_getElem?, Array.getElem?_setIfInBounds]
      by_cases e : i = j
      · subst e; rw [if_pos rfl, if_pos (by omega)]; simp
      · rw [if_neg e, ← Array.getD_eq_getD_getElem?, hl j hj, List.mem_cons]; exact ⟨.inr, fun x => x.resolve_left (fun x => e x.symm)⟩
    · simp only [List.mem_cons] at hj
      rcases hj with rfl | hj
      · exact m1
      · exact hlt j hj
    · intro o ho e he
      obtain ⟨x, x1, x2, x3⟩ := edgesOf_mem.1 he
      have m3 := m2.2
      rw [ho] at m3
      simp only [Option.map_some, Option.getD_some, Array.all_eq_true_iff_forall_mem, Bool.or_eq_true, Bool.not_eq_true'] at m3
      have := m3 x (by simpa using x1)
      rw [x2, x3] at this
      simp only [Bool.true_eq_false, false_or] at this
      have hlt' : e < ops.size := by
        apply Classical.byContradiction
        intro hx
        rw [Array.getD_eq_getD_getElem?, Array.getElem?_eq_none (by omega)] at this; simp at this
      exact (hl e hlt').1 this

theorem Ord.split : ∀ {res a b : List Nat} {x : Nat}, Ord ops res → res = a ++ x :: b → ∀ o, ops[x]? = some o → ∀ e, e ∈ edgesOf o.after.toList → e ∈ b
  | _, [], b, x, h, rfl, o, ho, e, he => h.1 o ho e he
  | _, y :: a, b, x, h, rfl, o, ho, e, he => Ord.split (res := a ++ x :: b) (a := a) h.2 rfl o ho e he

theorem pickR_mem {r : Bool} {done : List Nat} : ∀ {l : List (Nat × Oper)} {p : Nat × Oper}, pickR r done l = some p → p ∈ l
  | [], p, h => by simp [pickR] at h
  | (i, o) :: l, p, h => by
    simp only [pickR] at h
    split at h
    · cases h; simp
    · simp [pickR_mem h]

theorem asap_mem {all : List (Nat × Oper)} : ∀ {n : Nat} {done : List Nat} {p : Nat × Oper}, p ∈ asap all n done → p ∈ all
  | 0, done, p, h => by simp [asap] at h
  | n + 1, done, p, h => by
    simp only [asap] at h
    split at h
    · rename_i i o hp
      simp only [List.mem_cons] at h
      rcases h with rfl | h
      · exact pickR_mem hp
      · exact asap_mem h
    · split at h
      · rename_i i o hp
        simp only [List.mem_cons] at h
        rcases h with rfl | h
        · exact pickR_mem hp
        · exact asap_mem h
      · simp at h

/-- A drawn region begins. -/
theorem dw_init {d : Draw} (h : drawA ops = some d) (t : Nat) : d.ops = ops ∧ d.wait = false ∧ d.early = [] ∧ DW d (Region.linearise .any ops t) := by
  unfold drawA at h
  simp only at h
  split at h
  · rename_i hc
    cases h
    simp only [Bool.and_eq_true] at hc
    obtain ⟨⟨h1, h2⟩, h3⟩ := hc
    have hr : ∀ p, p ∈ asap (idxd 0 ops.toList) ops.toList.length [] → ops[p.1]? = some p.2 := fun p hp => idxd0.1 (asap_mem hp)
    have ha : ∀ i, i < ops.size → ∃ p, p ∈ asap (idxd 0 ops.toList) ops.toList.length [] ∧ p.1 = i := by
      intro i hi
      have hm : i ∈ (idxd 0 ops.toList).map Prod.fst := List.mem_map.2 ⟨(i, ops[i]), idxd0.2 (by simp [hi]), rfl⟩
      have := subB_iff.1 h2 i hm
      obtain ⟨p, p1, p2⟩ := List.mem_map.1 this
      exact ⟨p, p1, p2⟩
    obtain ⟨res, r1, r2, r3, r4, r5⟩ := go_order h1 hr ha ops.size t (Array.replicate ops.size false) [] (by simp) (fun i hi => by
      rw [Array.getD_eq_getD_getElem?, Array.getElem?_replicate, if_pos hi]; simp) (by simp) List.nodup_nil (by simp) trivial
    refine ⟨rfl, rfl, rfl, ?_⟩
    unfold Region.linearise
    rw [r1]
    refine ⟨h3, (by rw [List.Nodup, List.pairwise_reverse]; exact r4.imp (fun h => h.symm)), ?_, ?_, ?_, ?_, ?_⟩
    · intro pre suf hs i o ho e he hes
      have hi : i ∈ pre ++ suf := by rw [← hs, List.mem_reverse]; exact r2 i (Array.getElem?_eq_some_iff.1 ho).1
      rw [List.mem_append] at hi
      rcases hi with hi | hi
      · obtain ⟨a, b, rfl⟩ := List.append_of_mem hi
        have hres : res = (suf.reverse ++ b.reverse) ++ i :: a.reverse := by
          have := congrArg List.reverse hs
          rw [List.reverse_reverse] at this
          rw [this]; simp
        have h5 := r5.split hres o ho e he
        rw [hres] at r4
        rw [List.nodup_append] at r4
        exact absurd rfl (r4.2.2 e (by simp [hes]) e (by simp at h5; simp [h5]))
      · exact hi
    · intro p hp
      have := hr p hp
      exact ⟨by rw [List.mem_reverse]; exact r2 _ (Array.getElem?_eq_some_iff.1 this).1, this⟩
    · intro p hp; simp at hp
    · intro i hi
      rw [List.mem_reverse] at hi
      obtain ⟨p, p1, p2⟩ := ha i (r3 i hi)
      left; exact ⟨p.2, by rw [← p2]; exact p1⟩
    · intro x; cases x
  · cases h

end
end Go.AX

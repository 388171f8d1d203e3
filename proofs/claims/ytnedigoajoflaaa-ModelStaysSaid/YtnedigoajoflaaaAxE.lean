/-
  AX: regions whose order is drawn: every order that may be drawn holds all operations, each behind those that it must come behind.
-/
import Derived.Test.YtnedigoajoflaaaAxD
import Derived.Orders
set_option linter.unusedSimpArgs false
set_option linter.unusedVariables false
namespace Go.AX
open Go.RowKit
theorem memB_iff {n : Nat} : ∀ {l : List Nat}, memB n l = true ↔ n ∈ l
  | [] => by simp [memB]
  | m :: l => by
    simp only [memB, List.mem_cons]
    cases h : Nat.beq n m
    · have := Nat.ne_of_beq_eq_false h
      simp only [this, false_or]
      exact memB_iff
    · have := Nat.eq_of_beq_eq_true h
      simp [this]
theorem subB_iff {B : List Nat} : ∀ {l : List Nat}, subB B l = true ↔ ∀ e, e ∈ l → e ∈ B
  | [] => by simp [subB]
  | m :: l => by
    simp only [subB, List.mem_cons, forall_eq_or_imp]
    cases h : memB m B
    · simp only [Bool.false_eq_true, false_iff, not_and]
      intro h2; rw [memB_iff.2 h2] at h; cases h
    · simp only [memB_iff.1 h, true_and]; exact subB_iff
theorem anyB_iff {B : List Nat} : ∀ {l : List Nat}, anyB B l = true → ∃ e, e ∈ l ∧ e ∈ B
  | [], h => by simp [anyB] at h
  | m :: l, h => by
    simp only [anyB] at h
    split at h
    · rename_i hm; exact ⟨m, by simp, memB_iff.1 hm⟩
    · obtain ⟨e, h1, h2⟩ := anyB_iff h; exact ⟨e, by simp [h1], h2⟩
theorem edgesOf_mem {e : Nat} : ∀ {l : List Edge}, e ∈ edgesOf l ↔ ∃ x, x ∈ l ∧ Region.binds .any x = true ∧ x.on = e
  | [] => by simp [edgesOf]
  | x :: l => by
    simp only [edgesOf]
    split
    · rename_i hb
      simp only [List.mem_cons, edgesOf_mem (l := l)]
      constructor
      · rintro (rfl | ⟨y, h1, h2⟩)
        · exact ⟨x, .inl rfl, hb, rfl⟩
        · exact ⟨y, .inr h1, h2⟩
      · rintro ⟨y, rfl | h1, h2⟩
        · exact .inl h2.2.symm
        · exact .inr ⟨y, h1, h2⟩
    · rename_i hb
      simp only [List.mem_cons, edgesOf_mem (l := l)]
      constructor
      · rintro ⟨y, h1, h2⟩; exact ⟨y, .inr h1, h2⟩
      · rintro ⟨y, rfl | h1, h2⟩
        · rw [h2.1] at hb; cases hb
        · exact ⟨y, h1, h2⟩
theorem idxd_mem {p : Nat × Oper} : ∀ {l : List Oper} {i : Nat}, p ∈ idxd i l ↔ i ≤ p.1 ∧ l[p.1 - i]? = some p.2
  | [], i => by simp [idxd]
  | o :: l, i => by
    simp only [idxd, List.mem_cons, idxd_mem (l := l)]
    constructor
    · rintro (rfl | ⟨h1, h2⟩)
      · simp
      · refine ⟨by omega, ?_⟩
        rw [show p.1 - i = (p.1 - (i + 1)) + 1 by omega]; simpa using h2
    · rintro ⟨h1, h2⟩
      by_cases e : p.1 = i
      · left
        rw [e, Nat.sub_self] at h2
        simp at h2
        obtain ⟨a, b⟩ := p
        simp only at e h2
        rw [e, h2]
      · right
        refine ⟨by omega, ?_⟩
        rw [show p.1 - i = (p.1 - (i + 1)) + 1 by omega] at h2; simpa using h2
theorem idxd0 {ops : Array Oper} {p : Nat × Oper} : p ∈ idxd 0 ops.toList ↔ ops[p.1]? = some p.2 := by
  rw [idxd_mem]; simp
theorem dstOf_eq {ops : Array Oper} {j : Nat} {o : Oper} (h : ops[j]? = some o) : dstOf ops j = o.dst := by
  unfold dstOf; rw [Array.getElem?_toList, h]
theorem nodup_sub : ∀ {l m : List Nat}, l.Nodup → (∀ x, x ∈ l → x ∈ m) → l.length ≤ m.length
  | [], m, _, _ => by simp
  | x :: l, m, hn, hs => by
    obtain ⟨h1, h2⟩ := List.nodup_cons.1 hn
    have hx := hs x (by simp)
    have := nodup_sub (m := m.erase x) h2 (fun y hy => (List.mem_erase_of_ne (fun e : y = x => h1 (by rw [← e]; exact hy))).2 (hs y (by simp [hy])))
    rw [List.length_erase_of_mem hx] at this
    have hpos : 0 < m.length := List.length_pos_iff.2 (fun e => by rw [e] at hx; cases hx)
    simp only [List.length_cons]; omega
theorem nodup_all {n : Nat} {l : List Nat} (hn : l.Nodup) (hlt : ∀ x, x ∈ l → x < n) (hlen : l.length = n) {i : Nat} (hi : i < n) : i ∈ l := by
  apply Classical.byContradiction
  intro h
  have := nodup_sub (l := i :: l) (m := List.range n) (List.nodup_cons.2 ⟨h, hn⟩) (fun x hx => by
    simp only [List.mem_cons] at hx
    rcases hx with rfl | hx
    · exact List.mem_range.2 hi
    · exact List.mem_range.2 (hlt x hx))
  simp only [List.length_cons, List.length_range] at this; omega
def Ord (ops : Array Oper) : List Nat → Prop
  | [] => True
  | x :: b => (∀ o, ops[x]? = some o → ∀ e, e ∈ edgesOf o.after.toList → e ∈ b) ∧ Ord ops b
theorem topo_ready {S : List Nat} : ∀ {l : List (Nat × Oper)} {done : List Nat}, topoB done l = true → (∀ x, x ∈ done → x ∈ S) → (∃ p, p ∈ l ∧ p.1 ∉ S) →
    ∃ p, p ∈ l ∧ p.1 ∉ S ∧ ∀ e, e ∈ edgesOf p.2.after.toList → e ∈ S
  | [], _, _, _, ⟨p, h, _⟩ => by simp at h
  | (i, o) :: l, done, h, hs, ⟨p, hp, hn⟩ => by
    simp only [topoB] at h
    split at h
    · rename_i hc
      simp only [Bool.and_eq_true] at hc
      have hsub := subB_iff.1 hc.2
      by_cases hi : i ∈ S
      · obtain ⟨q, q1, q2, q3⟩ := topo_ready (S := S) h (fun x hx => by
          simp only [List.mem_cons] at hx
          rcases hx with rfl | hx
          · exact hi
          · exact hs x hx) (by
          refine ⟨p, ?_, hn⟩
          simp only [List.mem_cons] at hp
          rcases hp with rfl | hp
          · exact absurd hi hn
          · exact hp)
        exact ⟨q, by simp [q1], q2, q3⟩
      · exact ⟨(i, o), by simp, hi, fun e he => hs e (hsub e he)⟩
    · cases h
section
variable {ops : Array Oper}
theorem go_order {rem : List (Nat × Oper)} (ht : topoB [] rem = true) (hr : ∀ p, p ∈ rem → ops[p.1]? = some p.2) (ha : ∀ i, i < ops.size → ∃ p, p ∈ rem ∧ p.1 = i) :
    ∀ (fuel t : Nat) (listed : Array Bool) (acc : List Nat), listed.size = ops.size → (∀ i, i < ops.size → (listed.getD i false = true ↔ i ∈ acc)) → (∀ i, i ∈ acc → i < ops.size) → acc.Nodup → acc.length + fuel = ops.size → Ord ops acc →
    ∃ res : List Nat, Region.linearise.go .any ops fuel t listed acc = res.reverse ∧ (∀ i, i < ops.size → i ∈ res) ∧ (∀ i, i ∈ res → i < ops.size) ∧ res.Nodup ∧ Ord ops res
  | 0, t, listed, acc, hsz, hl, hlt, hnd, hlen, hord => by
    refine ⟨acc, rfl, fun i hi => ?_, hlt, hnd, hord⟩
    exact nodup_all hnd hlt (by omega) hi
  | fuel + 1, t, listed, acc, hsz, hl, hlt, hnd, hlen, hord => by
    unfold Region.linearise.go
    obtain ⟨rs, hrs⟩ : ∃ rs, rs = (List.range ops.size).filter fun i => !listed.getD i true && ((ops[i]?).map (·.after.all fun e => !Region.binds .any e || listed.getD e.on false)).getD false := ⟨_, rfl⟩
    simp only [← hrs]
    have hne : rs ≠ [] := by
      -- some is not listed
      have hex : ∃ i, i < ops.size ∧ i ∉ acc := by
        apply Classical.byContradiction
        intro hcon
        have hall : ∀ i, i < ops.size → i ∈ acc := fun i hi => Classical.byContradiction fun hx => hcon ⟨i, hi, hx⟩
        have := nodup_sub (List.nodup_range (n := ops.size)) (fun x hx => hall x (List.mem_range.1 hx))
        simp only [List.length_range] at this; omega
      obtain ⟨i, hi, hin⟩ := hex
      obtain ⟨p, hp, hpi⟩ := ha i hi
      obtain ⟨q, q1, q2, q3⟩ := topo_ready (S := acc) ht (by simp) ⟨p, hp, by rw [hpi]; exact hin⟩
      have hq := hr q q1
      have hqlt : q.1 < ops.size := (Array.getElem?_eq_some_iff.1 hq).1
      have : q.1 ∈ rs := by
        rw [hrs, List.mem_filter]
        refine ⟨List.mem_range.2 hqlt, ?_⟩
        simp only [Bool.and_eq_true, Bool.not_eq_true', hq, Option.map_some, Option.getD_some, Array.all_eq_true_iff_forall_mem, Bool.or_eq_true]
        constructor
        · have h1 : ¬ (listed.getD q.1 false = true) := fun x => q2 ((hl _ hqlt).1 x)
          have h2 : listed.getD q.1 true = listed.getD q.1 false := by
            rw [Array.getD_eq_getD_getElem?, Array.getD_eq_getD_getElem?, Array.getElem?_eq_getElem (by omega)]; rfl
          rw [h2]; simpa using h1
        · intro e he
          cases hb : Region.binds .any e
          · left; rfl
          · right
            have hm := q3 e.on (edgesOf_mem.2 ⟨e, by simpa using he, hb, rfl⟩)
            exact (hl _ (hlt _ hm)).2 hm
      intro e; rw [e] at this; cases this
    have hpos : 0 < rs.length := List.length_pos_iff.2 hne
    have hin : t % rs.length < rs.length := Nat.mod_lt _ hpos
    rw [List.getElem?_eq_getElem hin]
    simp only
    have hmem := List.getElem_mem hin
    obtain ⟨i, hi⟩ : ∃ i, i = rs[t % rs.length] := ⟨_, rfl⟩
    rw [← hi] at hmem ⊢
    rw [hrs, List.mem_filter] at hmem
    obtain ⟨m1, m2⟩ := hmem
    have m1 := List.mem_range.1 m1
    simp only [Bool.and_eq_true, Bool.not_eq_true'] at m2
    have hni : i ∉ acc := by
      intro hx
      have := (hl i m1).2 hx
      have h2 : listed.getD i true = listed.getD i false := by
        rw [Array.getD_eq_getD_getElem?, Array.getD_eq_getD_getElem?, Array.getElem?_eq_getElem (by omega)]; rfl
      rw [h2, this] at m2; exact absurd m2.1 (by simp)
    refine go_order ht hr ha fuel _ _ _ (by simp [hsz]) (fun j hj => ?_) (fun j hj => ?_) (List.nodup_cons.2 ⟨hni, hnd⟩) (by simp only [List.length_cons]; omega) ⟨?_, hord⟩
    · rw [Array.getD_eq_getD_getElem?, Array.getElem?_setIfInBounds]
      by_cases e : i = j
      · subst e; rw [if_pos rfl, if_pos (by omega)]; simp
      · rw [if_neg e, ← Array.getD_eq_getD_getElem?, hl j hj, List.mem_cons]; exact ⟨.inr, fun x => x.resolve_left (fun x => e x.symm)⟩
    · simp only [List.mem_cons] at hj
      rcases hj with rfl | hj
      · exact m1
      · exact hlt j hj
    · intro o ho e he
      obtain ⟨x, x1, x2, x3⟩ := edgesOf_mem.1 he
      have m3 := m2.2
      rw [ho] at m3
      simp only [Option.map_some, Option.getD_some, Array.all_eq_true_iff_forall_mem, Bool.or_eq_true, Bool.not_eq_true'] at m3
      have := m3 x (by simpa using x1)
      rw [x2, x3] at this
      simp only [Bool.true_eq_false, false_or] at this
      have hlt' : e < ops.size := by
        apply Classical.byContradiction
        intro hx
        rw [Array.getD_eq_getD_getElem?, Array.getElem?_eq_none (by omega)] at this; simp at this
      exact (hl e hlt').1 this
theorem Ord.split : ∀ {res a b : List Nat} {x : Nat}, Ord ops res → res = a ++ x :: b → ∀ o, ops[x]? = some o → ∀ e, e ∈ edgesOf o.after.toList → e ∈ b
  | _, [], b, x, h, rfl, o, ho, e, he => h.1 o ho e he
  | _, y :: a, b, x, h, rfl, o, ho, e, he => Ord.split (res := a ++ x :: b) (a := a) h.2 rfl o ho e he
theorem pickR_mem {r : Nat} {done : List Nat} : ∀ {l : List (Nat × Oper)} {p : Nat × Oper}, pickR r done l = some p → p ∈ l
  | [], p, h => by simp [pickR] at h
  | (i, o) :: l, p, h => by
    simp only [pickR] at h
    split at h
    · cases h; simp
    · simp [pickR_mem h]
theorem asap_mem {all : List (Nat × Oper)} : ∀ {n : Nat} {done : List Nat} {p : Nat × Oper}, p ∈ asap all n done → p ∈ all
  | 0, done, p, h => by simp [asap] at h
  | n + 1, done, p, h => by
    simp only [asap] at h
    split at h
    · rename_i i o hp
      simp only [List.mem_cons] at h
      rcases h with rfl | h
      · exact pickR_mem hp
      · exact asap_mem h
    · split at h
      · rename_i i o hp
        simp only [List.mem_cons] at h
        rcases h with rfl | h
        · exact pickR_mem hp
        · exact asap_mem h
      · split at h
        · rename_i i o hp
          simp only [List.mem_cons] at h
          rcases h with rfl | h
          · exact pickR_mem hp
          · exact asap_mem h
        · simp at h
theorem dw_init {d : Draw} (h : drawA ops = some d) (t : Nat) : d.ops = ops ∧ d.wait = false ∧ d.early = [] ∧ DW d (Region.linearise .any ops t) := by
  unfold drawA at h
  simp only at h
  split at h
  · rename_i hc
    cases h
    simp only [Bool.and_eq_true] at hc
    obtain ⟨⟨h1, h2⟩, h3⟩ := hc
    have hr : ∀ p, p ∈ asap (idxd 0 ops.toList) ops.toList.length [] → ops[p.1]? = some p.2 := fun p hp => idxd0.1 (asap_mem hp)
    have ha : ∀ i, i < ops.size → ∃ p, p ∈ asap (idxd 0 ops.toList) ops.toList.length [] ∧ p.1 = i := by
      intro i hi
      have hm : i ∈ (idxd 0 ops.toList).map Prod.fst := List.mem_map.2 ⟨(i, ops[i]), idxd0.2 (by simp [hi]), rfl⟩
      have := subB_iff.1 h2 i hm
      obtain ⟨p, p1, p2⟩ := List.mem_map.1 this
      exact ⟨p, p1, p2⟩
    obtain ⟨res, r1, r2, r3, r4, r5⟩ := go_order h1 hr ha ops.size t (Array.replicate ops.size false) [] (by simp) (fun i hi => by
      rw [Array.getD_eq_getD_getElem?, Array.getElem?_replicate, if_pos hi]; simp) (by simp) List.nodup_nil (by simp) trivial
    refine ⟨rfl, rfl, rfl, ?_⟩
    unfold Region.linearise
    rw [r1]
    refine ⟨h3, (by rw [List.Nodup, List.pairwise_reverse]; exact r4.imp (fun h => h.symm)), ?_, ?_, ?_, ?_, ?_⟩
    · intro pre suf hs i o ho e he hes
      have hi : i ∈ pre ++ suf := by rw [← hs, List.mem_reverse]; exact r2 i (Array.getElem?_eq_some_iff.1 ho).1
      rw [List.mem_append] at hi
      rcases hi with hi | hi
      · obtain ⟨a, b, rfl⟩ := List.append_of_mem hi
        have hres : res = (suf.reverse ++ b.reverse) ++ i :: a.reverse := by
          have := congrArg List.reverse hs
          rw [List.reverse_reverse] at this
          rw [this]; simp
        have h5 := r5.split hres o ho e he
        rw [hres] at r4
        rw [List.nodup_append] at r4
        exact absurd rfl (r4.2.2 e (by simp [hes]) e (by simp at h5; simp [h5]))
      · exact hi
    · intro p hp
      have := hr p hp
      exact ⟨by rw [List.mem_reverse]; exact r2 _ (Array.getElem?_eq_some_iff.1 this).1, this⟩
    · intro p hp; simp at hp
    · intro i hi
      rw [List.mem_reverse] at hi
      obtain ⟨p, p1, p2⟩ := ha i (r3 i hi)
      left; exact ⟨p.2, by rw [← p2]; exact p1⟩
    · intro x; cases x
  · cases h
end
end Go.AX

namespace Go.AX
open Go.RowKit
section
variable {P : Program} {N : NN} {φ : Phi} {w0 w : World} {d : Draw} {i : Nat} {o : Oper} {rest : List Nat} {idx : List Nat}
theorem DW.read {rem : List (Nat × Oper)} (h : DW d idx) (hw : d.wait = false) (hr : d.rem = (i, o) :: rem) (b : Nat) : DW { d with rem, early := (i, o, b) :: d.early } idx := by
  refine ⟨h.stat, h.nodup, h.closed, fun p hp => h.rem p (by rw [hr]; simp [hp]), fun p hp => ?_, fun j hj => ?_, fun x => by simp only [hw] at x; cases x⟩
  · simp only [List.mem_cons] at hp
    rcases hp with rfl | hp
    · exact (h.rem (i, o) (by rw [hr]; simp)).2
    · exact h.early p hp
  · rcases h.all j hj with ⟨o', ho⟩ | ⟨o', b', ho⟩
    · rw [hr, List.mem_cons] at ho
      rcases ho with e | ho
      · cases e; exact .inr ⟨_, _, List.mem_cons_self ..⟩
      · exact .inl ⟨o', ho⟩
    · exact .inr ⟨o', b', List.mem_cons_of_mem _ ho⟩
theorem DW.tail (h : DW d (i :: rest)) : (∀ suf pre, rest = pre ++ suf → Closed d.ops suf) ∧ rest.Nodup ∧ i ∉ rest :=
  ⟨fun suf pre e => h.closed (i :: pre) suf (by rw [e]; rfl), (List.nodup_cons.1 h.nodup).2, (List.nodup_cons.1 h.nodup).1⟩
theorem DW.lag (h : DW d (i :: rest)) (hw : d.wait = false) (hr : ∀ p, p ∈ d.rem → p.1 ≠ i) : DW d rest := by
  obtain ⟨h1, h2, h3⟩ := h.tail
  refine ⟨h.stat, h2, fun pre suf e => h1 suf pre e, fun p hp => ?_, h.early, fun j hj => h.all j (by simp [hj]), fun x => by rw [hw] at x; cases x⟩
  obtain ⟨a, b⟩ := h.rem p hp
  refine ⟨?_, b⟩
  simp only [List.mem_cons] at a
  exact a.resolve_left (hr p hp)
theorem chain_mem {pre post : List Nat} (h : DW d idx) (he : idx = pre ++ i :: post) : ∀ {l : List (Nat × Oper)} {B : List Nat}, chainB i B l = true → (∀ b, b ∈ B → b ∈ i :: post) → (∀ p, p ∈ l → p ∈ d.rem) → ∀ p, p ∈ l → p.1 ∈ post ∧ p.1 ≠ i
  | [], _, _, _, _, p, hp => by cases hp
  | (j, oj) :: l, B, hc, hB, hl, p, hp => by
    simp only [chainB] at hc
    split at hc
    · cases hc
    · rename_i hne
      have hne := Nat.ne_of_beq_eq_false hne
      split at hc
      · rename_i ha
        obtain ⟨e, e1, e2⟩ := anyB_iff ha
        have hj := (h.rem (j, oj) (hl _ (by simp))).2
        have hmem : j ∈ i :: post := h.closed pre (i :: post) he j oj hj e e1 (hB e e2)
        have hpost : j ∈ post := by
          simp only [List.mem_cons] at hmem; exact hmem.resolve_left hne
        simp only [List.mem_cons] at hp
        rcases hp with rfl | hp
        · exact ⟨hpost, hne⟩
        · refine chain_mem h he hc (fun b hb => ?_) (fun q hq => hl q (by simp [hq])) p hp
          simp only [List.mem_cons] at hb
          rcases hb with rfl | hb
          · exact hmem
          · exact hB b hb
      · cases hc
theorem dropF_sub {p : Nat × Oper × Nat} : ∀ {l : List (Nat × Oper × Nat)} {B : List Nat}, p ∈ dropF B l → p ∈ l
  | [], _, h => by simp [dropF] at h
  | (j, oj, b) :: l, B, h => by
    simp only [dropF] at h
    split at h
    · exact List.mem_cons_of_mem _ (dropF_sub h)
    · simp only [List.mem_cons] at h
      rcases h with rfl | h
      · simp
      · exact List.mem_cons_of_mem _ (dropF_sub h)
theorem dropF_mem {post : List Nat} (hcl : Closed d.ops post) : ∀ {l : List (Nat × Oper × Nat)} {B : List Nat}, (∀ e, e ∈ B → e ∉ post) → (∀ p, p ∈ l → d.ops[p.1]? = some p.2.1) → ∀ p, p ∈ l → p.1 ∈ post → p ∈ dropF B l
  | [], _, _, _, p, hp, _ => by cases hp
  | (j, oj, b) :: l, B, hB, hl, p, hp, hq => by
    simp only [dropF]
    split
    · rename_i hm
      have hj := hB j (memB_iff.1 hm)
      simp only [List.mem_cons] at hp
      rcases hp with rfl | hp
      · exact absurd hq hj
      · refine dropF_mem hcl (fun e he hx => ?_) (fun p hp => hl p (by simp [hp])) p hp hq
        rw [List.mem_append] at he
        rcases he with he | he
        · exact hj (hcl j oj (hl (j, oj, b) (by simp)) e he hx)
        · exact hB e he hx
    · simp only [List.mem_cons] at hp
      rcases hp with rfl | hp
      · simp
      · exact List.mem_cons_of_mem _ (dropF_mem hcl hB (fun p hp => hl p (by simp [hp])) p hp hq)
theorem DW.post_keep {rem : List (Nat × Oper)} {post : List Nat} (h : DW d (i :: post)) (hr : d.rem = (i, o) :: rem) :
    ∀ p, p ∈ d.early → p.1 ∈ post → p ∈ dropF (edgesOf o.after.toList) d.early := by
  obtain ⟨h1, h2, h3⟩ := h.tail
  have hcl := h1 post [] rfl
  have hi := (h.rem (i, o) (by rw [hr]; simp)).2
  exact dropF_mem hcl (fun e he hx => h3 (hcl i o hi e he hx)) h.early
theorem DW.write {rem : List (Nat × Oper)} {post : List Nat} (h : DW d (i :: post)) (hw : d.wait = false) (hr : d.rem = (i, o) :: rem) (hne : ∀ p, p ∈ rem → p.1 ≠ i) :
    DW { d with rem, early := dropF (edgesOf o.after.toList) d.early } post := by
  obtain ⟨h1, h2, h3⟩ := h.tail
  refine ⟨h.stat, h2, fun pre suf e => h1 suf pre e, fun p hp => ?_, fun p hp => h.early p (dropF_sub hp), fun j hj => ?_, fun x => by simp only [hw] at x; cases x⟩
  · obtain ⟨a, b⟩ := h.rem p (by rw [hr]; simp [hp])
    simp only [List.mem_cons] at a
    exact ⟨a.resolve_left (hne p hp), b⟩
  · rcases h.all j (by simp [hj]) with ⟨o', ho⟩ | ⟨o', b', ho⟩
    · rw [hr, List.mem_cons] at ho
      rcases ho with e | ho
      · cases e; exact absurd hj h3
      · exact .inl ⟨o', ho⟩
    · exact .inr ⟨o', b', h.post_keep hr _ ho hj⟩
theorem DW.waits {rem : List (Nat × Oper)} {post : List Nat} (h : DW d (i :: post)) (hr : d.rem = (i, o) :: rem) (hne : ∀ p, p ∈ rem → p.1 ≠ i) :
    DW { d with rem := (i, o) :: rem, early := dropF (edgesOf o.after.toList) d.early, wait := true } (i :: post) := by
  refine ⟨h.stat, h.nodup, h.closed, fun p hp => h.rem p (by rw [hr]; exact hp), fun p hp => h.early p (dropF_sub hp), fun j hj => ?_, fun _ => ⟨i, o, rem, post, rfl, rfl, hne⟩⟩
  simp only [List.mem_cons] at hj
  rcases hj with rfl | hj
  · exact .inl ⟨o, by simp⟩
  · rcases h.all j (by simp [hj]) with ⟨o', ho⟩ | ⟨o', b', ho⟩
    · exact .inl ⟨o', by rw [hr] at ho; exact ho⟩
    · exact .inr ⟨o', b', h.post_keep hr _ ho hj⟩
theorem DW.back {rem : List (Nat × Oper)} (h : DW d idx) (hw : d.wait = true) (hr : d.rem = (i, o) :: rem) : ∃ post, idx = i :: post ∧ d.ops[i]? = some o ∧ DW { d with rem, wait := false } post := by
  obtain ⟨i', o', rem', post, e1, e2, e3⟩ := h.wait hw
  rw [hr] at e1; cases e1; subst e2
  obtain ⟨h1, h2, h3⟩ := h.tail
  refine ⟨post, rfl, (h.rem (i, o) (by rw [hr]; simp)).2, h.stat, h2, fun pre suf e => h1 suf pre e, fun p hp => ?_, h.early, fun j hj => ?_, fun x => by cases x⟩
  · obtain ⟨a, b⟩ := h.rem p (by rw [hr]; simp [hp])
    simp only [List.mem_cons] at a
    exact ⟨a.resolve_left (e3 p hp), b⟩
  · rcases h.all j (by simp [hj]) with ⟨o', ho⟩ | ⟨o', b', ho⟩
    · rw [hr, List.mem_cons] at ho
      rcases ho with e | ho
      · cases e; exact absurd hj h3
      · exact .inl ⟨o', ho⟩
    · exact .inr ⟨o', b', ho⟩
theorem slotB_spec {t k : Nat} {es : List Nat} : ∀ {l : List (Nat × Oper)}, slotB t k es l = true → ∀ p, p ∈ l → p.2.dst = some t → p.1 ≠ k ∧ (p.1 ∈ es ∨ soon p.2 = false)
  | [], _, p, hp, _ => by cases hp
  | (j, oj) :: l, h, p, hp, ht => by
    simp only [slotB] at h
    simp only [List.mem_cons] at hp
    split at h
    · rename_i hn
      rcases hp with rfl | hp
      · simp only at ht; rw [ht] at hn; cases hn
      · exact slotB_spec h p hp ht
    · rename_i dd hd
      split at h
      · rename_i hn
        rcases hp with rfl | hp
        · simp only at ht; rw [ht] at hd; cases hd
          exact absurd rfl (Nat.ne_of_beq_eq_false hn)
        · exact slotB_spec h p hp ht
      · split at h
        · cases h
        · rename_i h1
          split at h
          · rename_i h2
            rcases hp with rfl | hp
            · refine ⟨Nat.ne_of_beq_eq_false h1, ?_⟩
              simp only [Bool.or_eq_true, Bool.and_eq_true, Bool.not_eq_true'] at h2
              rcases h2 with h2 | h2
              · exact .inl (memB_iff.1 h2)
              · exact .inr h2.1
            · exact slotB_spec h p hp ht
          · cases h
theorem slotsB_spec {k : Nat} {es : List Nat} {all : List (Nat × Oper)} : ∀ {l : List Tmp}, slotsB k es all l = true → ∀ t, t ∈ l → slotB t k es all = true
  | [], _, t, ht => by cases ht
  | u :: l, h, t, ht => by
    simp only [slotsB] at h
    split at h
    · rename_i hu
      simp only [List.mem_cons] at ht
      rcases ht with rfl | ht
      · exact hu
      · exact slotsB_spec h t ht
    · cases h
theorem statB_spec {ops : Array Oper} {all : List (Nat × Oper)} : ∀ {l : List (Nat × Oper)}, statB ops all l = true → ∀ p, p ∈ l → slotsB p.1 (edgesOf p.2.after.toList) all (slotsOf ops p.2) = true
  | [], _, p, hp => by cases hp
  | (k, ok) :: l, h, p, hp => by
    simp only [statB] at h
    split at h
    · rename_i hs
      simp only [List.mem_cons] at hp
      rcases hp with rfl | hp
      · exact hs
      · exact statB_spec h p hp
    · cases h
theorem DW.free (h : DW d (i :: rest)) (hi : d.ops[i]? = some o) : ∀ t, t ∈ slotsOf d.ops o → ∀ j, j ∈ i :: rest → isE d.ops j = true → dstOf d.ops j ≠ some t := by
  intro t ht j hj hE hd
  obtain ⟨h1, h2, h3⟩ := h.tail
  have hs := slotsB_spec (statB_spec h.stat (i, o) (idxd0.2 hi)) t ht
  cases hoj : d.ops[j]? with
  | none => unfold dstOf at hd; rw [Array.getElem?_toList, hoj] at hd; cases hd
  | some oj =>
    rw [dstOf_eq hoj] at hd
    obtain ⟨a, b⟩ := slotB_spec hs (j, oj) (idxd0.2 hoj) hd
    simp only [List.mem_cons] at hj
    rcases hj with e | hj
    · exact a e
    · rcases b with b | b
      · exact h3 (h1 rest [] rfl i o hi j b hj)
      · unfold isE at hE
        rw [hoj] at hE
        simp only at hE b
        rw [b] at hE; cases hE
theorem mini_get {tm : T AV} {t : Nat} : ∀ {l : List Tmp}, (mini tm l).get t = if t ∈ l then tm.get t else none
  | [] => by simp [mini]
  | u :: l => by
    simp only [mini, T.get_set, mini_get (l := l), List.mem_cons]
    by_cases e : t = u
    · subst e; simp
    · simp [e]
theorem tmpsOf_mem {t : Tmp} : ∀ {l : List Operand}, .tmp t ∈ l → t ∈ tmpsOf l
  | [], h => by cases h
  | x :: l, h => by
    simp only [List.mem_cons] at h
    rcases h with rfl | h
    · simp [tmpsOf]
    · have := tmpsOf_mem h
      cases x <;> simp [tmpsOf, this]
theorem slotsOf_ops {ops : Array Oper} {t : Tmp} (h : t ∈ tmpsOf o.op.operands.toList) : t ∈ slotsOf ops o := by
  unfold slotsOf
  split
  · exact h
  · split
    · exact List.mem_cons_of_mem _ h
    · exact h
theorem mini_rel {ops : Array Oper} {idx : List Nat} {nt : Nat} {tm : T AV} {tmps : Array Value} (tx : TX φ ops idx nt tm tmps) {l : List Tmp} (hf : ∀ t, t ∈ l → ∀ j, j ∈ idx → isE ops j = true → dstOf ops j ≠ some t) :
    ∃ tmps', TR φ nt (mini tm l) tmps' ∧ ∀ t, t ∈ l → tmps'.getD t undef = tmps.getD t undef := by
  obtain ⟨h1, h2⟩ := tx
  have hg : ∀ t, (Array.ofFn (n := nt) fun i => if i.val ∈ l then tmps.getD i.val undef else undef).getD t undef = if t ∈ l then tmps.getD t undef else undef := by
    intro t
    rw [Array.getD_eq_getD_getElem?]
    by_cases ht : t < nt
    · rw [Array.getElem?_eq_getElem (by simpa using ht)]; simp
    · rw [Array.getElem?_eq_none (by simpa using ht)]
      split
      · rw [Array.getD_eq_getD_getElem?, Array.getElem?_eq_none (by omega)]
      · rfl
  refine ⟨Array.ofFn (n := nt) fun i => if i.val ∈ l then tmps.getD i.val undef else undef, ⟨by simp, fun t => ?_⟩, fun t ht => by rw [hg, if_pos ht]⟩
  rw [hg, mini_get]
  by_cases ht : t ∈ l
  · rw [if_pos ht, if_pos ht]; exact h2 t (hf t ht)
  · rw [if_neg ht, if_neg ht]; exact VR_und
theorem wantedD_rel {ops : Array Oper} {nt : Nat} {tm : T AV} {tmps tmps' : Array Value} (tr : TR φ nt (mini tm (slotsOf ops o)) tmps') (hs : ∀ t, t ∈ slotsOf ops o → tmps'.getD t undef = tmps.getD t undef) :
    wantedD (mini tm (slotsOf ops o)) ops o = Region.wanted o (yielded ops tmps) := by
  unfold wantedD Region.wanted
  cases hg : o.guard with
  | none => rfl
  | some x =>
    obtain ⟨j, want⟩ := x
    simp only [yielded]
    cases hj : ops[j]? with
    | none => unfold dstOf; rw [Array.getElem?_toList, hj]; simp
    | some oj =>
      rw [dstOf_eq hj]
      simp only [Option.bind_some]
      cases hd : oj.dst with
      | none => simp
      | some dd =>
        simp only [Option.bind_some]
        have hr := tr.2 dd
        have hin : dd ∈ slotsOf ops o := by unfold slotsOf; rw [hg]; simp only [dstOf_eq hj, hd]; simp
        rw [hs dd hin] at hr
        cases ht : (mini tm (slotsOf ops o)).get dd with
        | none =>
          rw [ht] at hr
          simp only
          cases hc : tmps[dd]? with
          | none => simp
          | some c =>
            have e : tmps.getD dd undef = c := by rw [Array.getD_eq_getD_getElem?, hc]; rfl
            rw [e] at hr
            cases c with
            | bool b =>
              simp only [Option.getD_none, und, VR_tuple] at hr
              obtain ⟨a, ha, _⟩ := hr; cases ha
            | _ => simp
        | some v =>
          rw [ht, Option.getD_some] at hr
          cases hc : tmps[dd]? with
          | none =>
            have e : tmps.getD dd undef = undef := by rw [Array.getD_eq_getD_getElem?, hc]; rfl
            rw [e] at hr
            cases v with
            | bool b => simp [undef] at hr
            | _ => simp
          | some c =>
            have e : tmps.getD dd undef = c := by rw [Array.getD_eq_getD_getElem?, hc]; rfl
            rw [e] at hr
            cases v with
            | bool b => simp only [VR_bool] at hr; subst hr; simp
            | slice b o len cp => obtain ⟨a, c', e'⟩ := VR_slice_some hr; subst e'; simp
            | _ =>
              cases c with
              | bool b => simp at hr
              | _ => simp
theorem execA_select {tm : T AV} {h : H} {cs : Array SelectCase} {b : Bool} : execA P tm h (.select cs b) = .fail := rfl
theorem execD_rel {h : H} (hr : HR N φ h w) (hN : N ≤ w.heap.size) {ops : Array Oper} {idx : List Nat} {nt : Nat} {tm : T AV} {tmps : Array Value} (tx : TX φ ops idx nt tm tmps)
    (hf : ∀ t, t ∈ slotsOf ops o → ∀ j, j ∈ idx → isE ops j = true → dstOf ops j ≠ some t) :
    wantedD (mini tm (slotsOf ops o)) ops o = Region.wanted o (yielded ops tmps) ∧ RR P N φ w ((execOp (ev tmps) o).run P w) (execA P (mini tm (slotsOf ops o)) h o.op) := by
  obtain ⟨tmps', tr, hs⟩ := mini_rel tx hf
  refine ⟨wantedD_rel tr hs, ?_⟩
  have := execA_rel (P := P) hr hN tr o
  by_cases hsel : ∃ cs b, o.op = .select cs b
  · obtain ⟨cs, b, e⟩ := hsel
    rw [e, execA_select]; trivial
  · rw [execOp_congr (ρ := ev tmps) (ρ' := ev tmps') o (fun cs b e => hsel ⟨cs, b, e⟩) (fun x hx => ?_)]
    · exact this
    · cases x with
      | tmp t => exact (hs t (slotsOf_ops (tmpsOf_mem (by simpa using hx)))).symm
      | _ => rfl
end
end Go.AX

namespace Go.AX
open Go.RowKit
theorem listEqB_eq' : ∀ {a b : List Nat}, listEqB a b = true → a = b
  | [], [], _ => rfl
  | [], _ :: _, h => by simp [listEqB] at h
  | _ :: _, [], h => by simp [listEqB] at h
  | x :: a, y :: b, h => by
    simp only [listEqB] at h
    split at h
    · rename_i e; rw [Nat.eq_of_beq_eq_true e, listEqB_eq' h]
    · cases h
theorem kindEqB_eq' {j k : IntKind} (h : IntKind.eqB j k = true) : j = k := by cases j <;> cases k <;> first | rfl | (simp [IntKind.eqB] at h)
mutual
theorem AV.same_eq : ∀ {a b : AV}, AV.same a b = true → a = b
  | .bool a, b, h => by cases b <;> simp [AV.same] at h; rw [h]
  | .int k a, b, h => by
    cases b <;> simp [AV.same] at h
    rw [kindEqB_eq' h.1, h.2]
  | .str a, b, h => by cases b <;> simp [AV.same] at h; rw [listEqB_eq' h]
  | .nilptr, b, h => by cases b <;> simp [AV.same] at h; rfl
  | .ptr a c, b, h => by cases b <;> simp [AV.same] at h; rw [h.1, h.2]
  | .nilslice, b, h => by cases b <;> simp [AV.same] at h; rfl
  | .slice0, b, h => by cases b <;> simp [AV.same] at h; rfl
  | .slice a o l (.exact c), b, h => by
    cases b with
    | slice a' o' l' c' => cases c' <;> simp [AV.same] at h; rw [h.1.1.1, h.1.1.2, h.1.2, h.2]
    | _ => simp [AV.same] at h
  | .slice a o l (.opn c), b, h => by
    cases b with
    | slice a' o' l' c' => cases c' <;> simp [AV.same] at h; rw [h.1.1.1, h.1.1.2, h.1.2, h.2]
    | _ => simp [AV.same] at h
  | .nilmap, b, h => by cases b <;> simp [AV.same] at h; rfl
  | .map a, b, h => by cases b <;> simp [AV.same] at h; rw [h]
  | .func f x y, b, h => by
    cases b with
    | func g x' y' =>
      simp only [AV.same, Bool.and_eq_true] at h
      rw [Nat.eq_of_beq_eq_true h.1.1, AV.sames_eq h.1.2, AV.sames_eq h.2]
    | _ => simp [AV.same] at h
  | .yield a, b, h => by cases b <;> simp [AV.same] at h; rw [h]
  | .nilFunc, b, h => by cases b <;> simp [AV.same] at h; rfl
  | .iface t x, b, h => by
    cases b with
    | iface u y =>
      simp only [AV.same, Bool.and_eq_true] at h
      rw [Nat.eq_of_beq_eq_true h.1, AV.same_eq h.2]
    | _ => simp [AV.same] at h
  | .nilIface, b, h => by cases b <;> simp [AV.same] at h; rfl
  | .agg x, b, h => by
    cases b with
    | agg y => simp only [AV.same] at h; rw [AV.sames_eq h]
    | _ => simp [AV.same] at h
  | .tuple x, b, h => by
    cases b with
    | tuple y => simp only [AV.same] at h; rw [AV.sames_eq h]
    | _ => simp [AV.same] at h
theorem AV.sames_eq : ∀ {a b : List AV}, AV.sames a b = true → a = b
  | [], [], _ => rfl
  | [], _ :: _, h => by simp [AV.sames] at h
  | _ :: _, [], h => by simp [AV.sames] at h
  | x :: a, y :: b, h => by
    simp only [AV.sames, Bool.and_eq_true] at h
    rw [AV.same_eq h.1, AV.sames_eq h.2]
end
theorem sameRow_eq : ∀ {a b : List AV}, sameRow a b = true → a = b
  | [], [], _ => rfl
  | [], _ :: _, h => by simp [sameRow] at h
  | _ :: _, [], h => by simp [sameRow] at h
  | x :: l, y :: m, h => by
    simp only [sameRow, Bool.and_eq_true] at h
    rw [AV.same_eq h.1, sameRow_eq h.2]
theorem T.same_eq : ∀ {a b : T AV}, T.same a b = true → a = b
  | .row xs, .row ys, h => by simp only [T.same] at h; rw [sameRow_eq h]
  | .e, .e, _ => rfl
  | .e, .n .., h => by simp [T.same] at h
  | .n .., .e, h => by simp [T.same] at h
  | .n l v r, .n l' v' r', h => by
    cases v <;> cases v' <;> simp only [T.same, Bool.and_eq_true, Bool.false_eq_true] at h
    · rw [T.same_eq h.1, T.same_eq h.2]
    · rw [AV.same_eq h.1, T.same_eq h.2.1, T.same_eq h.2.2]
section
variable {P : Program} {N : NN} {φ : Phi} {w0 w : World} {d : Draw} {i : Nat} {o : Oper} {rest : List Nat} {idx : List Nat}
theorem optV_h {h h' : H} {x : Option AV} {v : AV} (e : optV h x = .val v h') : h' = h := by
  cases x with
  | none => cases e
  | some y => cases e; rfl
theorem builtin_h {b : Builtin} (hb : b = .len ∨ b = .cap ∨ b = .min ∨ b = .max) {ts : List TypeId} {args : List AV} {h h' : H} {v : AV} (e : builtinA P b ts args h = .val v h') : h' = h := by
  unfold builtinA at e
  rcases hb with rfl | rfl | rfl | rfl <;> split at e <;> first
    | contradiction
    | (cases e; rfl)
    | (cases e; done)
    | (split at e <;> first | (cases e; rfl) | (cases e; done))
theorem apartV_h {op : BinOp} {t : TypeId} {h h' : H} {v : AV} (e : apartV P op t h = .val v h') : h' = h := by
  unfold apartV at e
  repeat' (first | (cases e; rfl) | (cases e; done) | split at e)
theorem isRead_h {op : Op} (hr : isRead op = true) {tm : T AV} {h h' : H} {v : AV} (e : execA P tm h op = .val v h') : h' = h := by
  cases op with
  | call c =>
    obtain ⟨callee, args, ts⟩ := c
    cases callee with
    | builtin b =>
      have hb : b = .len ∨ b = .cap ∨ b = .min ∨ b = .max := by cases b <;> simp [isRead] at hr <;> simp
      simp only [execA] at e
      split at e
      · cases e
      · exact builtin_h hb e
    | _ => simp [isRead] at hr
  | makeFunc fn a b =>
    cases fn with
    | func f =>
      simp only [execA] at e
      split at e
      · cases e; rfl
      · cases e
    | _ => simp only [execA] at e; cases e
  | _ =>
    first
    | (simp [isRead] at hr; done)
    | (simp only [execA] at e
       first
       | exact optV_h e
       | (repeat' split at e
          all_goals first | exact optV_h e | exact apartV_h e | (cases e; done) | (cases e; rfl)))
def NN.less (N : NN) (b : Nat) : NN := { n := N.n, res := fun x => if x = b then none else N.res x }
theorem OR.less {L : Loc} {b : Nat} : ∀ {ob : AObj}, OR φ N L w ob → OR φ (N.less b) L w ob
  | .cells .., x => x
  | .map .., x => x
  | .romap .., x => x
  | .strIter .., x => x
  | .mapIter .., x => x
  | .loop _, x => x
  | .deferred _, x => x
theorem HR.fill {h : H} {w' : World} (hr : HR N φ h w) {b : Nat} (hb : N.res b ≠ none) {ob : AObj} (hg : h.t.get b = some ob) {O : Obj} (hw : w'.heap = w.heap.push O) {base K : Nat}
    (ho : OR (φ.ins b ⟨w.heap.size, base, K⟩) (N.less b) ⟨w.heap.size, base, K⟩ w' ob) : HR (N.less b) (φ.ins b ⟨w.heap.size, base, K⟩) h w' ∧ φ.le (φ.ins b ⟨w.heap.size, base, K⟩) := by
  obtain ⟨hb1, hb2⟩ := hr.res b hb
  have hle : φ.le (φ.ins b ⟨w.heap.size, base, K⟩) := Phi.le_ins _ hb1
  refine ⟨⟨fun x ox hx hn => ?_, fun x ox y oy L1 L2 hx hy h1 h2 e => ?_, fun x hx => ?_, fun x hx => ?_, fun g hg => hle _ _ (hr.glob g hg)⟩, hle⟩
  · by_cases q : x = b
    · subst q; rw [hg] at hx; cases hx; exact ⟨_, Phi.ins_same _ _ _, ho⟩
    · have hn' : N.res x = none := by simpa [NN.less, q] using hn
      obtain ⟨L, g1, g2⟩ := hr.obj x ox hx hn'
      have hlt := g2.lt
      refine ⟨L, hle _ _ g1, (g2.less.le hle).congr ?_⟩
      rw [hw, Array.getElem?_push, if_neg (by omega)]
  · by_cases q : x = b <;> by_cases r : y = b
    · rw [q, r]
    · subst q; rw [Phi.ins_same] at h1; cases h1; rw [Phi.ins_other _ _ r] at h2
      have := (hr.get hy h2).lt
      simp only at e; omega
    · subst r; rw [Phi.ins_same] at h2; cases h2; rw [Phi.ins_other _ _ q] at h1
      have := (hr.get hx h1).lt
      simp only at e; omega
    · rw [Phi.ins_other _ _ q] at h1; rw [Phi.ins_other _ _ r] at h2
      exact hr.inj x ox y oy L1 L2 hx hy h1 h2 e
  · rw [Phi.ins_other _ _ (by omega)]; exact hr.lt x hx
  · have q : x ≠ b := by
      intro e; subst e; simp [NN.less] at hx
    have hx' : N.res x ≠ none := by simpa [NN.less, q] using hx
    rw [Phi.ins_other _ _ q]; exact hr.res x hx'
theorem freshIs_eq {t : TypeId} {l : List AV} {ob : Option AObj} (h : freshIs t l ob = true) : ob = some (.cells (lenL l) (T.ofRow l) ⟨0, t + 1⟩ false) := by
  unfold freshIs at h
  split at h
  · simp only [Bool.and_eq_true] at h
    rw [Nat.eq_of_beq_eq_true h.1, T.same_eq h.2.1, Nat.eq_of_beq_eq_true h.2.2]
  · cases h
theorem slotIs_eq {nt : Nat} {tm : T AV} {t : Tmp} {v : AV} (h : slotIs nt tm (some t) v = true) : tm.get t = some v ∧ t < nt := by
  simp only [slotIs] at h
  split at h
  · cases h
  · rename_i hb
    split at h
    · rename_i u hu
      exact ⟨by rw [hu, AV.same_eq h], Nat.le_of_ble_eq_true hb⟩
    · cases h
theorem TX.put {nt : Nat} {tm : T AV} {tmps : Array Value} (tx : TX φ d.ops (i :: rest) nt tm tmps) (hi : d.ops[i]? = some o) {v : AV} {cv : Value} (hs : slotIs nt tm o.dst v = true) (hv : VR φ v cv) :
    TX φ d.ops rest nt tm (match o.dst with | some t => tmps.setIfInBounds t cv | none => tmps) := by
  obtain ⟨h1, h2⟩ := tx
  cases hd : o.dst with
  | none =>
    refine ⟨h1, fun t ht => h2 t fun j hj hE => ?_⟩
    simp only [List.mem_cons] at hj
    rcases hj with rfl | hj
    · rw [dstOf_eq hi, hd]; simp
    · exact ht j hj hE
  | some t0 =>
    rw [hd] at hs
    obtain ⟨g1, g2⟩ := slotIs_eq hs
    refine ⟨by simp [h1], fun t ht => ?_⟩
    simp only
    rw [Array.getD_eq_getD_getElem?, Array.getElem?_setIfInBounds]
    by_cases e : t0 = t
    · subst e
      rw [if_pos rfl, if_pos (by rw [h1]; exact g2), g1]; exact hv
    · rw [if_neg e, ← Array.getD_eq_getD_getElem?]
      refine h2 t fun j hj hE => ?_
      simp only [List.mem_cons] at hj
      rcases hj with rfl | hj
      · rw [dstOf_eq hi, hd]; simpa using e
      · exact ht j hj hE
def Keeps (N N' : NN) (k i : Nat) : Prop := N'.n = N.n ∧ ∀ b j q, ¬ (j = k ∧ q = i) → N.res b = some (j, q) → N'.res b = some (j, q)
theorem fresh1_run {h : H} (_hr : HR N φ h w) {nt : Nat} {tm : T AV} {tmps : Array Value} (tr : TR φ nt tm tmps) (hal : isAlloc o = true) {t : TypeId} {l : List AV} (hf : fresh1 P tm o.op = some (t, l)) :
    ∃ cl : List Value, (execOp (ev tmps) o).run P w = .ok (.value (.pointer (some ⟨w.heap.size, 0, none⟩))) { w with heap := w.heap.push (.cells cl.toArray t) } ∧ All2 (VR φ) l cl ∧ (∀ a, a ∈ l → a.one = true) := by
  obtain ⟨dst, op, ty, pos, after, guard⟩ := o
  cases op with
  | alloc t =>
    simp only [fresh1] at hf
    split at hf
    · rename_i z hz
      cases hf
      obtain ⟨cz, h1, h2, h3, _⟩ := zeroA_rel (w := w) (φ := φ) hz
      refine ⟨cz.cells.toList, ?_, h2.cells, h3⟩
      simp only [execOp, Instr.alloc, newVar, newRow, Sem.run_bind, run_newObj, Result.andThen_ok, Sem.run_pure, Array.toArray_toList, h1]
    · cases hf
  | box t x =>
    simp only [fresh1] at hf
    split at hf
    · rename_i v hv
      split at hf
      · rename_i ho
        cases hf
        have := evalA_rel tr hv
        refine ⟨(ev tmps x).cells.toList, ?_, this.cells, allOne_mem ho⟩
        simp only [execOp, Instr.box, newVar, newRow, Sem.run_bind, run_newObj, Result.andThen_ok, Sem.run_pure, Array.toArray_toList]
      · cases hf
    · cases hf
  | _ => simp only [fresh1] at hf; cases hf
section
variable {fn : FuncId} {tmps : Array Value} {ck : List Item} {ds : List Deferred} {kd : CallKind} {ro : Option Nat} {cs : List Frame}
theorem isRead_defer (h : isRead o.op = true) : ∀ c, o.op ≠ .defer c := by
  intro c e; rw [e] at h; cases h
theorem isAlloc_defer (h : isAlloc o = true) : ∀ c, o.op ≠ .defer c := by
  intro c e; unfold isAlloc at h; rw [e] at h; cases hg : o.guard <;> rw [hg] at h <;> cases h
theorem isAlloc_guard (h : isAlloc o = true) : o.guard = none := by
  unfold isAlloc at h
  cases hg : o.guard with
  | none => rfl
  | some g => rw [hg] at h; cases ho : o.op <;> rw [ho] at h <;> cases h
theorem conv_h {s d : TypeId} {x : Operand} {tm : T AV} {h h' : H} {v : AV} (e : execA P tm h (.convert s d x) = .val v h') (hv : (∃ k n, v = .int k n) ∨ (∃ s, v = .str s) ∨ v = und) : h' = h := by
  simp only [execA] at e
  split at e
  · split at e
    · unfold toUnsafeA at e
      repeat' (first | (cases e; rfl) | (cases e; done) | split at e)
    · unfold fromUnsafeA at e
      repeat' (first | (cases e; rfl) | (cases e; done) | split at e)
    · unfold convertA at e
      split at e
      · simp only [forceInt_eq] at e; cases e; rfl
      · cases e; rfl
      · split at e
        · cases e
          rcases hv with ⟨k, n, hv⟩ | ⟨s, hv⟩ | hv <;> cases hv
        · cases e
      · repeat' (first | (cases e; rfl) | (cases e; done) | split at e)
      · repeat' (first | (cases e; rfl) | (cases e; done) | split at e)
      · repeat' (first | (cases e; rfl) | (cases e; done) | split at e)
      · cases e
  · cases e
theorem readVal_spec {tm : T AV} {h : H} {ops : Array Oper} {v : AV} (hv : readVal P tm h ops o = some v) :
    (∃ h', execD P tm h ops o = .val v h') ∧ (∀ c, o.op ≠ .defer c) ∧ soon o = true ∧ ∀ tm' h'', execA P tm' h o.op = .val v h'' → h'' = h := by
  unfold readVal at hv
  split at hv
  · rename_i hr
    split at hv
    · rename_i v' h' hex
      cases hv
      exact ⟨⟨h', hex⟩, isRead_defer hr, by unfold soon; rw [hr]; rfl, fun tm' h'' e => isRead_h hr e⟩
    · cases hv
  · split at hv
    · rename_i hc
      have hop : ∃ a b x, o.op = .convert a b x := by
        unfold isConv at hc
        split at hc
        · rename_i a b x e; exact ⟨a, b, x, e⟩
        · cases hc
      have hs : soon o = true := by unfold soon; rw [hc]; simp
      obtain ⟨a, b, x, hop⟩ := hop
      split at hv
      · rename_i v' h' hex
        split at hv
        · cases hv
          refine ⟨⟨h', hex⟩, (by rw [hop]; simp), hs, fun tm' h'' e => ?_⟩
          rw [hop] at e
          exact conv_h e (.inl ⟨_, _, rfl⟩)
        · cases hv
          refine ⟨⟨h', hex⟩, (by rw [hop]; simp), hs, fun tm' h'' e => ?_⟩
          rw [hop] at e
          exact conv_h e (.inr (.inl ⟨_, rfl⟩))
        · cases hv
          refine ⟨⟨h', hex⟩, (by rw [hop]; simp), hs, fun tm' h'' e => ?_⟩
          rw [hop] at e
          exact conv_h e (.inr (.inr rfl))
        · cases hv
      · cases hv
    · cases hv
theorem fresh2_run {nt : Nat} {tm : T AV} {tmps : Array Value} (tr : TR φ nt tm tmps) {t : TypeId} {l : List AV} {n : Nat} (hf : fresh2 P tm o.op = some (t, l, n)) :
    ∃ cl : List Value, (execOp (ev tmps) o).run P w = .ok (.value (.slice (some ⟨w.heap.size, 0, none⟩) n n)) { w with heap := w.heap.push (.cells cl.toArray t) } ∧ All2 (VR φ) l cl ∧ (∀ a, a ∈ l → a.one = true) := by
  obtain ⟨dst, op, ty, pos, after, guard⟩ := o
  cases op with
  | buildSlice t' len parts =>
    simp only [fresh2] at hf
    split at hf
    · rename_i ps hps
      have hrel := evalP_rel tr hps
      obtain ⟨cl, h1, h2⟩ := rowS_run (P := P) (w := w) (φ := φ) (cparts := (parts.map fun p => (p.1, ev tmps p.2))) hf (by rw [Array.toList_map]; exact hrel)
      refine ⟨cl, ?_, h2, rowS_one hf⟩
      simp only [execOp, Sem.run_bind, h1, Result.andThen_ok, Sem.run_pure]
    · cases hf
  | makeSlice t' a b =>
    simp only [fresh2] at hf
    split at hf
    · rename_i x y hx hy
      obtain ⟨cl, h1, h2, h3⟩ := rowM_run (P := P) (w := w) (φ := φ) hf (evalA_rel tr hx) (evalA_rel tr hy)
      refine ⟨cl, ?_, h2, h3⟩
      simp only [execOp, Sem.run_bind, h1, Result.andThen_ok, Sem.run_pure]
    · cases hf
  | _ => simp only [fresh2] at hf; cases hf
theorem isFl_op (h : isFl o = true) : (∃ t n ps, o.op = .buildSlice t n ps) ∨ ∃ t a b, o.op = .makeSlice t a b := by
  unfold isFl at h
  split at h
  · rename_i t n ps e; exact .inl ⟨t, n, ps, e⟩
  · rename_i t a b e; exact .inr ⟨t, a, b, e⟩
  · cases h
theorem isFl_facts (h : isFl o = true) : (∀ cs b, o.op ≠ .select cs b) ∧ (∀ c, o.op ≠ .defer c) ∧ isRead o.op = false ∧ isConv o.op = false := by
  rcases isFl_op h with ⟨t, n, ps, e⟩ | ⟨t, a, b, e⟩ <;> rw [e] <;> refine ⟨by simp, by simp, rfl, rfl⟩
theorem lag_one {k b nt : Nat} {tm : T AV} {h : H} (hw : DW d (i :: rest)) (hi : d.ops[i]? = some o) (tx : TX φ d.ops (i :: rest) nt tm tmps) (hr : HR N φ h w) (hN : N ≤ w.heap.size)
    (hok : readOk P nt tm h d.ops o b = true) (hres : isLay o = true → N.res b = some (k, i)) :
    ∃ N' φ' tmps' w', Keeps N N' k i ∧ φ.le φ' ∧ Steps P (lone ⟨fn, tmps, .inRegion d.ops (i :: rest) :: ck, ds, .run, kd, ro⟩ cs w) (lone ⟨fn, tmps', .inRegion d.ops rest :: ck, ds, .run, kd, ro⟩ cs w') ∧
      TX φ' d.ops rest nt tm tmps' ∧ HR N' φ' h w' ∧ Below N w w' ∧ N'.n ≤ w'.heap.size := by
  have hfree := hw.free hi
  unfold readOk at hok
  split at hok
  · rename_i hal
    split at hok
    · rename_i hnf
      split at hok
      · cases hok
      · rename_i v hv
        obtain ⟨⟨h', hex⟩, hdf, _, hsame⟩ := readVal_spec hv
        obtain ⟨e1, e2⟩ := execD_rel (P := P) hr hN tx hfree
        unfold execD at hex
        split at hex
        · rename_i hwa
          rw [hex] at e2
          have hh := hsame _ _ hex
          subst hh
          obtain ⟨φ', cv, w', g1, g2, g3, g4, g5⟩ := e2
          have hst := m_value (P := P) (fn := fn) (k := ck) (ds := ds) (kd := kd) (ro := ro) (cs := cs) (rest := rest) hi (by rw [← e1]; exact hwa) (.inr hdf) g1
          refine ⟨N, φ', _, w', ⟨rfl, fun _ _ _ _ x => x⟩, g3, hst, ?_, g4, g5, Nat.le_trans hN g5.size⟩
          simp only [hi, Option.bind_some]
          exact (tx.le g3).put hi hok g2
        · rename_i hwa
          cases hex
          have hst := m_opSkip (P := P) (fn := fn) (tmps := tmps) (k := ck) (ds := ds) (kd := kd) (ro := ro) (cs := cs) (w := w) (ops := d.ops) (i := i) (rest := rest) (by rw [hi]; simp only [Option.map_some, Option.getD_some]; rw [← e1]; exact hwa)
          refine ⟨N, φ, _, w, ⟨rfl, fun _ _ _ _ x => x⟩, φ.le_refl, hst, ?_, hr, Below.refl _ _, hN⟩
          simp only [hi, Option.bind_some]
          exact tx.put hi hok VR_und
    · rename_i hfl
      have hres := hres (by unfold isLay; rw [hfl, Bool.or_true])
      obtain ⟨hop1, hop2, -, -⟩ := isFl_facts hfl
      split at hok
      · cases hok
      · rename_i hwa
        split at hok
        · cases hok
        · rename_i t l n hl
          split at hok
          · cases hok
          · rename_i hfr
            have hg := freshIs_eq hfr
            obtain ⟨tmps1, tr, hs⟩ := mini_rel tx hfree
            obtain ⟨e1, -⟩ := execD_rel (P := P) (o := o) hr hN tx hfree
            obtain ⟨cl, hrun, hcl, hone⟩ := fresh2_run (P := P) (w := w) tr hl
            have hcongr : execOp (ev tmps) o = execOp (ev tmps1) o := by
              refine execOp_congr (ρ := ev tmps) (ρ' := ev tmps1) o hop1 (fun x hx => ?_)
              · cases x with
                | tmp t => exact (hs t (slotsOf_ops (tmpsOf_mem (by simpa using hx)))).symm
                | _ => rfl
            have hst := m_value (P := P) (fn := fn) (tmps := tmps) (k := ck) (ds := ds) (kd := kd) (ro := ro) (cs := cs) (rest := rest) hi (by rw [← e1]; exact hwa) (.inr hop2) (by rw [hcongr]; exact hrun)
            have hfill := hr.fill (w' := { w with heap := w.heap.push (.cells cl.toArray t) }) (b := b) (by rw [hres]; simp) hg (O := .cells cl.toArray t) rfl (base := 0) (K := 0) (by
              have hle : φ.le (φ.ins b ⟨w.heap.size, 0, 0⟩) := Phi.le_ins _ (hr.res b (by rw [hres]; simp)).1
              refine ⟨cl.toArray, t, (0, 0), by simp, by simp [hcl.length], fun j v hj => ?_, fun _ => ⟨hN, by simp⟩, ⟨fun e => absurd rfl e, fun _ => rfl, fun _ => rfl, fun _ _ => rfl⟩⟩
              rw [T.get_ofRow] at hj
              obtain ⟨cv, hcv, hR⟩ := hcl.get hj
              exact ⟨by rw [lenL_eq]; exact (List.getElem?_eq_some_iff.1 hj).1, hone v (List.mem_of_getElem? hj), cv, by simpa using hcv, hR.le hle⟩)
            refine ⟨N.less b, _, _, _, ⟨rfl, fun x j q hne hx => ?_⟩, hfill.2, hst, ?_, hfill.1, below_push _ hN, ?_⟩
            · have : x ≠ b := by
                intro e; subst e; rw [hres] at hx; cases hx; exact hne ⟨rfl, rfl⟩
              simp [NN.less, this, hx]
            · simp only [hi, Option.bind_some]
              exact (tx.le hfill.2).put hi hok (by rw [VR_sliceEx]; exact ⟨_, Phi.ins_same _ _ _, by simp⟩)
            · simp only [Array.size_push]; have : (N.less b).n = N.n := rfl; omega
  · rename_i hal
    have hres := hres (by unfold isLay; rw [hal]; rfl)
    split at hok
    · cases hok
    · rename_i t l hl
      split at hok
      · cases hok
      · rename_i hfr
        have hg := freshIs_eq hfr
        obtain ⟨tmps1, tr, hs⟩ := mini_rel tx hfree
        obtain ⟨cl, hrun, hcl, hone⟩ := fresh1_run (P := P) (w := w) hr tr hal hl
        have hcongr : execOp (ev tmps) o = execOp (ev tmps1) o := by
          refine execOp_congr (ρ := ev tmps) (ρ' := ev tmps1) o (fun cs b e => ?_) (fun x hx => ?_)
          · unfold isAlloc at hal; rw [e] at hal; cases hgd : o.guard <;> rw [hgd] at hal <;> cases hal
          · cases x with
            | tmp t => exact (hs t (slotsOf_ops (tmpsOf_mem (by simpa using hx)))).symm
            | _ => rfl
        have hst := m_value (P := P) (fn := fn) (tmps := tmps) (k := ck) (ds := ds) (kd := kd) (ro := ro) (cs := cs) (rest := rest) hi (by unfold Region.wanted; rw [isAlloc_guard hal]) (.inr (isAlloc_defer hal)) (by rw [hcongr]; exact hrun)
        have hfill := hr.fill (w' := { w with heap := w.heap.push (.cells cl.toArray t) }) (b := b) (by rw [hres]; simp) hg (O := .cells cl.toArray t) rfl (base := 0) (K := 0) (by
          have hle : φ.le (φ.ins b ⟨w.heap.size, 0, 0⟩) := Phi.le_ins _ (hr.res b (by rw [hres]; simp)).1
          refine ⟨cl.toArray, t, (0, 0), by simp, by simp [hcl.length], fun j v hj => ?_, fun _ => ⟨hN, by simp⟩, ⟨fun e => absurd rfl e, fun _ => rfl, fun _ => rfl, fun _ _ => rfl⟩⟩
          rw [T.get_ofRow] at hj
          obtain ⟨cv, hcv, hR⟩ := hcl.get hj
          exact ⟨by rw [lenL_eq]; exact (List.getElem?_eq_some_iff.1 hj).1, hone v (List.mem_of_getElem? hj), cv, by simpa using hcv, hR.le hle⟩)
        refine ⟨N.less b, _, _, _, ⟨rfl, fun x j q hne hx => ?_⟩, hfill.2, hst, ?_, hfill.1, below_push _ hN, ?_⟩
        · have : x ≠ b := by
            intro e; subst e; rw [hres] at hx; cases hx; exact hne ⟨rfl, rfl⟩
          simp [NN.less, this, hx]
        · simp only [hi, Option.bind_some]
          exact (tx.le hfill.2).put hi hok (VR_ptr.2 ⟨_, Phi.ins_same _ _ _, by simp⟩)
        · simp only [Array.size_push]; have : (N.less b).n = N.n := rfl; omega
end
end
end Go.AX

namespace Go.AX
open Go.RowKit
section
variable {P : Program} {K : Hook} {N : NN} {φ : Phi} {w0 w : World} {bot : List Frame} {s s' : S} {fr : Frame} {cs : List Frame}
theorem TR.set {nt : Nat} {tm : T AV} {tmps : Array Value} (tr : TR φ nt tm tmps) {d : Nat} (hd : d < nt) {v : AV} {cv : Value} (hv : VR φ v cv) : TR φ nt (tm.set d (some v)) (tmps.setIfInBounds d cv) := by
  refine ⟨by simp [tr.1], fun i => ?_⟩
  rw [T.get_set]
  by_cases e : i = d
  · subst e
    rw [if_pos rfl, Option.getD_some, Array.getD_eq_getD_getElem?, Array.getElem?_setIfInBounds, if_pos rfl, if_pos (by rw [tr.1]; exact hd)]
    exact hv
  · rw [if_neg e, Array.getD_eq_getD_getElem?, Array.getElem?_setIfInBounds, if_neg (fun x => e x.symm), ← Array.getD_eq_getD_getElem?]
    exact tr.2 i
theorem putD_rel {a : AFrame} {fr : Frame} (tr : TR φ a.nt a.tm fr.tmps) {d : Option Tmp} {v : AV} {cv : Value} (hv : VR φ v cv) :
    TR φ a.nt (a.putD d v) (match d with | some d => fr.tmps.setIfInBounds d cv | none => fr.tmps) := by
  unfold AFrame.putD
  cases d with
  | none => exact tr
  | some d =>
    simp only
    split
    · rename_i h
      exact tr.set (by have := Nat.le_of_ble_eq_true h; omega) hv
    · rename_i h
      have hge : ¬ d < a.nt := fun x => by rw [show Nat.blt d a.nt = true from Nat.ble_eq_true_of_le x] at h; cases h
      have : fr.tmps.setIfInBounds d cv = fr.tmps := by
        rw [Array.setIfInBounds]; rw [dif_neg (by rw [tr.1]; exact hge)]
      rw [this]; exact tr
theorem opsR_cons {ops : Array Oper} {idx : List Nat} {o : Oper} {l : List Oper} (h : idx.map (fun j => ops[j]?) = (o :: l).map some) :
    ∃ i rest, idx = i :: rest ∧ ops[i]? = some o ∧ rest.map (fun j => ops[j]?) = l.map some := by
  cases idx with
  | nil => simp at h
  | cons i rest =>
    simp only [List.map_cons, List.cons.injEq] at h
    exact ⟨i, rest, rfl, h.1, h.2⟩
theorem finish1_rel {c c' : AFrame} {cc : Frame} (hc : FR φ c cc) {v : AV} {cv : Value} (hv : VR φ v cv) (h : c.finish1 v = some c') : FR φ c' (cc.finish cv) := by
  obtain ⟨fn, nt, tm, todo, defers, mode, kind, ro, dr⟩ := c
  obtain ⟨cfn, ctmps, ctodo, cds, cmode, ckind, cro⟩ := cc
  obtain ⟨h1, h2, h3, h4, h5, h6, h7⟩ := hc
  unfold AFrame.finish1 at h
  split at h
  · rename_i ops o l k he
    simp only at he; subst he
    obtain ⟨ci, ck, rfl, hi, hk⟩ := All2.cons_left.1 h3
    obtain ⟨idx, rfl, hidx⟩ := hi
    obtain ⟨i, rest, rfl, ho, hrest⟩ := opsR_cons hidx
    simp only [Option.some.injEq] at h; subst h
    have hput := putD_rel (a := ⟨fn, nt, tm, .ops ops (o :: l) :: k, defers, mode, kind, ro, dr⟩) (fr := ⟨cfn, ctmps, .inRegion ops (i :: rest) :: ck, cds, cmode, ckind, cro⟩) h2 (d := o.dst) hv
    simp only [Frame.finish, ho, Option.bind_some]
    exact ⟨h1, hput, ⟨⟨rest, rfl, hrest⟩, hk⟩, h4, h5, h6, h7⟩
  · rename_i l k he
    simp only at he; subst he
    obtain ⟨ci, ck, rfl, ⟨L, hL, rfl⟩, hk⟩ := All2.cons_left.1 h3
    simp only [Option.some.injEq] at h; subst h
    exact ⟨h1, h2, ⟨⟨L, hL, rfl⟩, hk⟩, h4, h5, h6, h7⟩
  · rename_i k he
    simp only at he; subst he
    obtain ⟨ci, ck, rfl, hi, hk⟩ := All2.cons_left.1 h3
    simp only [IR] at hi; subst hi
    simp only [Option.some.injEq] at h; subst h
    exact ⟨h1, h2, hk, h4, h5, h6, h7⟩
  · cases h
theorem finish1_dr {c c' : AFrame} {v : AV} (h : c.finish1 v = some c') : c'.dr = c.dr := by
  unfold AFrame.finish1 at h
  split at h <;> first | (cases h; rfl) | cases h
theorem TX.done {ops : Array Oper} {i : Nat} {o : Oper} {post : List Nat} {a : AFrame} {tmps : Array Value} (tx : TX φ ops (i :: post) a.nt a.tm tmps) (hi : ops[i]? = some o) (hd : dstOk a.nt o.dst = true) {v : AV} {cv : Value} (hv : VR φ v cv) :
    TX φ ops post a.nt (a.putD o.dst v) (match o.dst with | some t => tmps.setIfInBounds t cv | none => tmps) := by
  obtain ⟨h1, h2⟩ := tx
  unfold AFrame.putD
  cases hdst : o.dst with
  | none =>
    refine ⟨h1, fun t ht => h2 t fun j hj hE => ?_⟩
    simp only [List.mem_cons] at hj
    rcases hj with rfl | hj
    · rw [dstOf_eq hi, hdst]; simp
    · exact ht j hj hE
  | some t0 =>
    rw [hdst] at hd
    have hlt : t0 < a.nt := Nat.le_of_ble_eq_true hd
    have hd' : Nat.blt t0 a.nt = true := hd
    simp only [hd']
    refine ⟨by simp [h1], fun t ht => ?_⟩
    rw [T.get_set, Array.getD_eq_getD_getElem?, Array.getElem?_setIfInBounds]
    by_cases e : t0 = t
    · subst e
      rw [if_pos rfl, if_pos rfl, if_pos (by rw [h1]; exact hlt)]; exact hv
    · rw [if_neg e, if_neg (fun x => e x.symm), ← Array.getD_eq_getD_getElem?]
      refine h2 t fun j hj hE => ?_
      simp only [List.mem_cons] at hj
      rcases hj with rfl | hj
      · rw [dstOf_eq hi, hdst]; simpa using e
      · exact ht j hj hE
theorem finish_rel {k : Nat} {c c' : AFrame} {cc : Frame} (hc : F2 N k φ c cc) {v : AV} {cv : Value} (hv : VR φ v cv) (h : c.finish v = some c') : F2 N k φ c' (cc.finish cv) := by
  cases hd : c.dr with
  | none =>
    unfold AFrame.finish at h
    rw [hd] at h
    simp only at h
    exact .mk ((finish1_dr h).trans hd) (finish1_rel (hc.un hd) hv h)
  | some d =>
    unfold AFrame.finish at h
    rw [hd] at h
    simp only at h
    obtain ⟨idx, ck, hx⟩ := hc.und hd
    obtain ⟨g1, g2, g3, g4, g5, g6, g7, g8, g9, g10⟩ := hx
    unfold AFrame.finishD at h
    split at h
    · rename_i i o rem hw hr
      split at h
      · rename_i hdst
        cases h
        obtain ⟨post, rfl, ho, hdw⟩ := g5.back hw hr
        obtain ⟨cfn, ctmps, ctodo, cds, cmode, ckind, cro⟩ := cc
        simp only at g2; subst g2
        refine .mkd (d := { d with rem, wait := false }) rfl (idx := post) (ck := ck) ⟨g1, rfl, ?_, g4, hdw, fun p h1 h2 h3 => g6 p h1 (by simp [h2]) h3, g7, g8, g9, g10⟩
        simp only [Frame.finish, ho, Option.bind_some]
        exact g3.done ho hdst hv
      · cases h
    · cases h
theorem raise1_rel {c : AFrame} {cc : Frame} (hc : FR φ c cc) {l : List APanic} {l' : List PanicEntry} (hl : All2 (PR φ) l l') : FR φ (c.raise1 l) (cc.raise l') := by
  obtain ⟨fn, nt, tm, todo, defers, mode, kind, ro, dr⟩ := c
  obtain ⟨cfn, ctmps, ctodo, cds, cmode, ckind, cro⟩ := cc
  obtain ⟨h1, h2, h3, h4, h5, h6, h7⟩ := hc
  cases mode with
  | run => simp only [MR] at h5; subst h5; exact ⟨h1, h2, h3, h4, ⟨l', rfl, hl⟩, h6, h7⟩
  | returning => simp only [MR] at h5; subst h5; exact ⟨h1, h2, h3, h4, ⟨l', rfl, hl⟩, h6, h7⟩
  | panicking ch => obtain ⟨ch', e, hch⟩ := h5; simp only at e; subst e; exact ⟨h1, h2, h3, h4, ⟨_, rfl, hl.append hch⟩, h6, h7⟩
theorem finish_1 {c c' : AFrame} {v : AV} (hd : c.dr = none) (h : c.finish v = some c') : c.finish1 v = some c' := by
  unfold AFrame.finish at h; rw [hd] at h; exact h
theorem finish_dr' {c c' : AFrame} {v : AV} (hd : c.dr = none) (h : c.finish v = some c') : c'.dr = none :=
  (finish1_dr (finish_1 hd h)).trans hd
theorem F2.mode {k : Nat} {c : AFrame} {cc : Frame} (h : F2 N k φ c cc) : MR φ c.mode cc.mode := by
  cases hd : c.dr with
  | none => exact (h.un hd).mode
  | some d => obtain ⟨idx, ck, x⟩ := h.und hd; exact x.mode
theorem F2.withMode {k : Nat} {c : AFrame} {cc : Frame} (h : F2 N k φ c cc) {m : AMode} {m' : FrameMode} (hm : MR φ m m') : F2 N k φ { c with mode := m } { cc with mode := m' } := by
  cases hd : c.dr with
  | none => have x := h.un hd; exact .mk rfl ⟨x.fn, x.tm, x.todo, x.defers, hm, x.kind, x.round⟩
  | some d => obtain ⟨idx, ck, x⟩ := h.und hd; exact .mkd (d := d) rfl ⟨x.fn, x.here, x.tm, x.todo, x.dw, x.lag, x.defers, hm, x.kind, x.round⟩
theorem raise_rel {k : Nat} {c c' : AFrame} {cc : Frame} (hc : F2 N k φ c cc) {l : List APanic} {l' : List PanicEntry} (hl : All2 (PR φ) l l') (h : c.raise l = some c') : F2 N k φ c' (cc.raise l') := by
  unfold AFrame.raise at h
  split at h
  · rename_i hd
    cases h
    exact .mk hd (raise1_rel (hc.un hd) hl)
  · rename_i hd hm
    cases h
    have h5 := hc.mode
    rw [hm] at h5
    simp only [MR] at h5
    have e : cc.raise l' = { cc with mode := .panicking l' } := by
      obtain ⟨cfn, ctmps, ctodo, cds, cmode, ckind, cro⟩ := cc
      simp only at h5; subst h5; rfl
    rw [e]
    exact hc.withMode ⟨l', rfl, hl⟩
  · cases h
theorem F2.fnDefers {k : Nat} {c : AFrame} {cc : Frame} (h : F2 N k φ c cc) : cc.fn = c.fn ∧ All2 (DR φ) c.defers cc.defers := by
  cases hd : c.dr with
  | none => exact ⟨(h.un hd).fn, (h.un hd).defers⟩
  | some d => obtain ⟨idx, ck, x⟩ := h.und hd; exact ⟨x.fn, x.defers⟩
theorem exitTo_rel {id : Nat} : ∀ {k : List AItem} {ck : List Item}, All2 (IR φ) k ck →
    (∀ k', aExitTo id k = some k' → ∃ ck', exitTo id ck = some ck' ∧ All2 (IR φ) k' ck') ∧ (aExitTo id k = none → exitTo id ck = none)
  | [], ck, h => by rw [All2.nil_left] at h; subst h; exact ⟨fun _ h => by simp [aExitTo] at h, fun _ => rfl⟩
  | i :: k, ck, h => by
    obtain ⟨ci, cr, rfl, hi, hk⟩ := All2.cons_left.1 h
    obtain ⟨ih1, ih2⟩ := exitTo_rel (id := id) hk
    cases i with
    | inBlock id' =>
      simp only [IR] at hi; subst hi
      simp only [aExitTo, exitTo]
      cases hb : Nat.beq id' id
      · have := Nat.ne_of_beq_eq_false hb
        have e : (id' == id) = false := by simp [this]
        simp only [e, Bool.false_eq_true, if_false]
        exact ⟨ih1, ih2⟩
      · have := Nat.eq_of_beq_eq_true hb
        subst this
        simp only [beq_self_eq_true, if_true]
        exact ⟨fun k' h => by simp only [Option.some.injEq] at h; subst h; exact ⟨_, rfl, hk⟩, fun h => by cases h⟩
    | code c => simp only [IR] at hi; subst hi; exact ⟨ih1, ih2⟩
    | inLoop c => simp only [IR] at hi; subst hi; exact ⟨ih1, ih2⟩
    | inScope c => simp only [IR] at hi; subst hi; exact ⟨ih1, ih2⟩
    | ops o l => obtain ⟨idx, rfl, _⟩ := hi; exact ⟨ih1, ih2⟩
    | inRangeFunc l => obtain ⟨L, _, rfl⟩ := hi; exact ⟨ih1, ih2⟩
    | endRangeFunc l => obtain ⟨L, _, rfl⟩ := hi; exact ⟨ih1, ih2⟩
    | beginRound => simp only [IR] at hi; subst hi; exact ⟨ih1, ih2⟩
theorem gotoIn_rel {id : Nat} : ∀ {k : List AItem} {ck : List Item}, All2 (IR φ) k ck →
    (∀ k', aGotoIn id k = some k' → ∃ ck', gotoIn id ck = some ck' ∧ All2 (IR φ) k' ck') ∧ (aGotoIn id k = none → gotoIn id ck = none)
  | [], ck, h => by rw [All2.nil_left] at h; subst h; exact ⟨fun _ h => by simp [aGotoIn] at h, fun _ => rfl⟩
  | i :: k, ck, h => by
    obtain ⟨ci, cr, rfl, hi, hk⟩ := All2.cons_left.1 h
    obtain ⟨ih1, ih2⟩ := gotoIn_rel (id := id) hk
    cases i with
    | inScope c =>
      simp only [IR] at hi; subst hi
      simp only [aGotoIn, gotoIn]
      cases hb : findLabel c id with
      | none => exact ⟨ih1, ih2⟩
      | some rest => exact ⟨fun k' h => by simp only [Option.some.injEq] at h; subst h; exact ⟨_, rfl, rfl, rfl, hk⟩, fun h => by cases h⟩
    | code c => simp only [IR] at hi; subst hi; exact ⟨ih1, ih2⟩
    | inLoop c => simp only [IR] at hi; subst hi; exact ⟨ih1, ih2⟩
    | inBlock c => simp only [IR] at hi; subst hi; exact ⟨ih1, ih2⟩
    | ops o l => obtain ⟨idx, rfl, _⟩ := hi; exact ⟨ih1, ih2⟩
    | inRangeFunc l => obtain ⟨L, _, rfl⟩ := hi; exact ⟨ih1, ih2⟩
    | endRangeFunc l => obtain ⟨L, _, rfl⟩ := hi; exact ⟨ih1, ih2⟩
    | beginRound => simp only [IR] at hi; subst hi; exact ⟨ih1, ih2⟩
theorem VR_bool_inv {a : AV} {b : Bool} (h : VR φ a (.bool b)) : a = .bool b := by
  cases a with
  | slice b o len c => obtain ⟨a, c, e⟩ := VR_slice_some h; cases e
  | bool b => simp at h; rw [h]
  | _ => simp at h
theorem wanted_rel {a : AFrame} {fr : Frame} (tr : TR φ a.nt a.tm fr.tmps) (ops : Array Oper) (o : Oper) : wantedA a ops o = Region.wanted o (yielded ops fr.tmps) := by
  unfold wantedA Region.wanted
  cases hg : o.guard with
  | none => rfl
  | some x =>
    obtain ⟨j, want⟩ := x
    simp only [yielded, Array.getElem?_toList]
    cases hj : ops[j]? with
    | none => simp
    | some oj =>
      simp only [Option.bind_some]
      cases hd : oj.dst with
      | none => simp
      | some d =>
        simp only [Option.bind_some]
        have hr := tr.2 d
        cases ht : a.tm.get d with
        | none =>
          rw [ht] at hr
          simp only
          cases hc : fr.tmps[d]? with
          | none => simp
          | some c =>
            have e : fr.tmps.getD d undef = c := by rw [Array.getD_eq_getD_getElem?, hc]; rfl
            rw [e] at hr
            cases c with
            | bool b => have := VR_bool_inv hr; simp [und] at this
            | _ => simp
        | some v =>
          rw [ht, Option.getD_some] at hr
          cases hc : fr.tmps[d]? with
          | none =>
            have e : fr.tmps.getD d undef = undef := by rw [Array.getD_eq_getD_getElem?, hc]; rfl
            rw [e] at hr
            cases v with
            | bool b => simp [undef] at hr
            | _ => simp
          | some c =>
            have e : fr.tmps.getD d undef = c := by rw [Array.getD_eq_getD_getElem?, hc]; rfl
            rw [e] at hr
            cases v with
            | bool b =>
              simp only [VR_bool] at hr; subst hr
              simp
            | _ =>
              cases c with
              | bool b => have := VR_bool_inv hr; simp at this
              | _ => simp
theorem range_ops (ops : Array Oper) : (List.range ops.size).map (fun j => ops[j]?) = ops.toList.map some := by
  apply List.ext_getElem?
  intro i
  rw [List.getElem?_map, List.getElem?_map]
  by_cases h : i < ops.size
  · simp [h]
  · rw [List.getElem?_eq_none (by simp; omega), List.getElem?_eq_none (by simp; omega)]; rfl
def Goes (P : Program) (N : NN) (w0 : World) (bot : List Frame) (φ : Phi) (fr : Frame) (cs : List Frame) (w : World) (s' : S) : Prop :=
  ∃ φ' fr' cs' w', φ.le φ' ∧ Steps P (lone fr (cs ++ bot) w) (lone fr' (cs' ++ bot) w') ∧ SR N w0 φ' s' fr' cs' w'
theorem sim_to {k : List AItem} {ck : List Item} (hs : SR N w0 φ s fr cs w) (hd : s.fr.dr = none) (h : to s k = some s')
    (hst : Steps P (lone fr (cs ++ bot) w) (lone { fr with todo := ck } (cs ++ bot) w)) (hk : All2 (IR φ) k ck) : Goes P N w0 bot φ fr cs w s' := by
  simp only [to, Option.some.injEq] at h; subst h
  have hf := hs.fr.un hd
  exact ⟨φ, { fr with todo := ck }, cs, w, φ.le_refl, hst, .mk hd ⟨hf.fn, hf.tm, hk, hf.defers, hf.mode, hf.kind, hf.round⟩, hs.cs, hs.h, hs.below, hs.size⟩
theorem loop_get {h : H} (hr : HR N φ h w) {l : Nat} {r : ALoop} {L : Loc} (hb : h.t.get l = some (.loop r)) (hL : φ l = some L) :
    ∃ tmps D, N ≤ L.B ∧ w.heap[L.B]? = some (.loop { state := r.state, pending := r.pending, fn := r.fn, tmps, params := r.params.toArray, assign := r.assign, body := r.body, defers := D }) ∧
      TR φ r.nt r.tm tmps ∧ (∃ M, φ r.defers = some M ∧ D = M.B) ∧
      (Instr.getLoop L.B).run P w = .ok { state := r.state, pending := r.pending, fn := r.fn, tmps, params := r.params.toArray, assign := r.assign, body := r.body, defers := D } w := by
  obtain ⟨hN, tmps, D, h1, h2, h3⟩ := hr.get hb hL
  refine ⟨tmps, D, hN, h1, h2, h3, ?_⟩
  simp only [Instr.getLoop, Sem.run_bind, getObj_run h1 (fun _ _ _ => by simp), Result.andThen_ok, Sem.run_pure]
theorem loop_set {h : H} (hr : HR N φ h w) {l : Nat} {r r' : ALoop} {L : Loc} (hb : h.t.get l = some (.loop r)) (hL : φ l = some L) {tmps : Array Value} {D : Nat}
    (ht : TR φ r'.nt r'.tm tmps) (hd : ∃ M, φ r'.defers = some M ∧ D = M.B) (hN : N ≤ L.B) :
    HR N φ { h with t := h.t.set l (some (.loop r')) } (setB w L.B (.loop { state := r'.state, pending := r'.pending, fn := r'.fn, tmps, params := r'.params.toArray, assign := r'.assign, body := r'.body, defers := D })) := by
  have hlt := (hr.get hb hL).lt
  exact hr.set hb hL _ (fun k hk => by rw [setB_get hlt, if_neg hk]) ⟨hN, tmps, D, by rw [setB_get hlt, if_pos rfl], ht, hd⟩
theorem doRet_normal {v : AV} {cv : Value} {h : H} {c : AFrame} {cs' : List AFrame} (hcs : s.cs = c :: cs') (hk : s.fr.kind = .normal) (hd : doRet s v h = some s')
    (hr : CS N φ s.cs cs) (hv : VR φ v cv) (hh : HR N φ h w) (hb : Below N w0 w) (hN : N ≤ w.heap.size) :
    ∃ cc ccs, cs = cc :: ccs ∧ SR N w0 φ s' (cc.finish cv) ccs w := by
  unfold doRet at hd
  rw [hcs] at hr hd
  obtain ⟨cc, ccs, rfl, h1, h2⟩ := hr
  simp only [hk] at hd
  split at hd
  · rename_i c' hf
    cases hd
    exact ⟨cc, ccs, rfl, finish_rel h1 hv hf, h2, hh, hb, hN⟩
  · cases hd
theorem sim_endRound {l : Nat} {jump : Option Code} (hs : SR N w0 φ s fr cs w) (hdr : s.fr.dr = none) (hro : s.fr.roundOf = some l) (hm : s.fr.mode = .run) (h : leaveA s jump = some s')
    (ht : fr.todo = [] ∧ jump = none ∨ (∃ k, fr.todo = .code .ret :: k) ∧ jump = some .ret ∨ (∃ id k, fr.todo = .code (.exit id) :: k ∧ exitTo id k = none ∧ jump = some (.exit id)) ∨ ∃ id k, fr.todo = .code (.goto id) :: k ∧ gotoIn id k = none ∧ jump = some (.goto id)) :
    Goes P N w0 bot φ fr cs w s' := by
  obtain ⟨hF, hcs, hh, hb, hN⟩ := hs
  obtain ⟨f1, f2, f3, f4, f5, f6, f7⟩ := hF.un hdr
  unfold leaveA at h
  rw [hro] at h
  simp only at h
  split at h
  · rename_i r hk hl
    have h7 := f7
    rw [hro] at h7
    obtain ⟨L, hL, hro'⟩ := h7
    obtain ⟨tmps, D, g0, g1, g2, g3, g4⟩ := loop_get (P := P) hh hl hL
    obtain ⟨r', hr'⟩ : ∃ r' : ALoop, r' = { r with state := endSt jump, pending := jump } := ⟨_, rfl⟩
    rw [← hr'] at h
    have hset := loop_set (r' := r') hh hl hL (tmps := tmps) (D := D) (by rw [hr']; exact g2) (by rw [hr']; exact g3) g0
    have hrun : (Instr.endRound L.B jump).run P w = .ok (.bool jump.isNone) (setB w L.B (.loop { state := r'.state, pending := r'.pending, fn := r'.fn, tmps, params := r'.params.toArray, assign := r'.assign, body := r'.body, defers := D })) := by
      simp only [Instr.endRound, Sem.run_bind, g4, Result.andThen_ok, setObj_run g1 (fun _ _ _ => by simp), Sem.run_pure, hr']
      cases jump <;> rfl
    cases hc : s.cs with
    | nil => unfold doRet at h; rw [hc] at h; cases h
    | cons c cs' =>
      obtain ⟨cc, ccs, rfl, hsr⟩ := doRet_normal hc hk h hcs (VR_bool.2 rfl) hset (hb.trans (below_setB _ g0)) (by rw [setB_size]; exact hN)
      refine ⟨φ, _, ccs, _, φ.le_refl, ?_, hsr⟩
      obtain ⟨cfn, ctmps, ctodo, cds, cmode, ckind, cro⟩ := fr
      simp only at f6 hro' ht
      rw [hm] at f5; simp only [MR] at f5
      rw [hk] at f6
      subst f6; subst f5; subst hro'
      exact m_endRound ht hrun
  · cases h
theorem sim_leave {jump : Option Code} (hs : SR N w0 φ s fr cs w) (hdr : s.fr.dr = none) (hm : s.fr.mode = .run) (h : leaveA s jump = some s')
    (ht : fr.todo = [] ∧ jump = none ∨ (∃ k, fr.todo = .code .ret :: k) ∧ jump = some .ret ∨ (∃ id k, fr.todo = .code (.exit id) :: k ∧ exitTo id k = none ∧ jump = some (.exit id)) ∨ ∃ id k, fr.todo = .code (.goto id) :: k ∧ gotoIn id k = none ∧ jump = some (.goto id)) :
    Goes P N w0 bot φ fr cs w s' := by
  cases hro : s.fr.roundOf with
  | some l => exact sim_endRound hs hdr hro hm h ht
  | none =>
    obtain ⟨hF, hcs, hh, hb, hN⟩ := hs
    obtain ⟨f1, f2, f3, f4, f5, f6, f7⟩ := hF.un hdr
    unfold leaveA at h
    rw [hro] at h
    simp only at h
    rw [hro] at f7
    simp only [RoR] at f7
    rw [hm] at f5; simp only [MR] at f5
    obtain ⟨cfn, ctmps, ctodo, cds, cmode, ckind, cro⟩ := fr
    simp only at f5 f7 ht
    subst f5; subst f7
    rcases ht with ⟨rfl, rfl⟩ | ⟨⟨k, rfl⟩, rfl⟩ | ⟨id, k, rfl, hk, rfl⟩ | ⟨id, k, rfl, hk, rfl⟩
    · cases h
      exact ⟨φ, _, cs, w, φ.le_refl, m_end, ⟨.mk hdr ⟨f1, f2, f3, f4, rfl, f6, by rw [hro]; rfl⟩, hcs, hh, hb, hN⟩⟩
    · cases h
      exact ⟨φ, _, cs, w, φ.le_refl, m_ret, ⟨.mk hdr ⟨f1, f2, f3, f4, rfl, f6, by rw [hro]; rfl⟩, hcs, hh, hb, hN⟩⟩
    · cases h
    · cases h
theorem enter_rel {f : FuncId} {args : List AV} {cargs : Array Value} {kd : CallKind} {a : AFrame} (ha : All2 (VR φ) args cargs.toList) (h : enterA P f args kd = some a) :
    FR φ a (Frame.enter P f cargs kd) := by
  unfold enterA at h
  split at h
  · rename_i fn hf
    split at h
    · rename_i c hc
      cases h
      refine ⟨rfl, ⟨?_, fun i => ?_⟩, ?_, trivial, rfl, rfl, rfl⟩
      · have := ha.length
        simp only [Array.length_toList] at this
        simp only [Frame.enter, hf, Option.map_some, Option.getD_some, Array.size_append, Array.size_replicate, this, Nat.max_def]
        split <;> omega
      · simp only [Frame.enter, hf, Option.map_some, Option.getD_some, T.get_fill0]
        rw [Array.getD_eq_getD_getElem?]
        cases hi : args[i]? with
        | some v =>
          obtain ⟨cv, hcv, hR⟩ := ha.get hi
          rw [Array.getElem?_toList] at hcv
          have hlt : i < cargs.size := (Array.getElem?_eq_some_iff.1 hcv).1
          rw [Array.getElem?_append_left hlt, hcv]
          exact hR
        | none =>
          have hge : cargs.size ≤ i := by
            have := List.getElem?_eq_none_iff.1 hi
            have h2 := ha.length
            simp only [Array.length_toList] at h2
            omega
          rw [Array.getElem?_append_right hge, Array.getElem?_replicate]
          split
          · exact VR_und
          · exact VR_und
      · simp only [Frame.enter, hf, Option.bind_some, hc, Option.getD_some]
        exact ⟨rfl, trivial⟩
    · cases h
  · cases h
theorem enter_dr {f : FuncId} {args : List AV} {kd : CallKind} {a : AFrame} (h : enterA P f args kd = some a) : a.dr = none := by
  unfold enterA at h
  split at h
  · split at h
    · cases h; rfl
    · cases h
  · cases h
theorem setParams_rel {nt : Nat} : ∀ {ps : List Tmp} {args : List AV} {tm tm' : T AV} {tmps : Array Value} {cargs : List Value}, setParams nt tm ps args = some tm' → TR φ nt tm tmps → All2 (VR φ) args cargs →
    TR φ nt tm' ((ps.zip cargs).foldl (fun t (x : Tmp × Value) => t.setIfInBounds x.1 x.2) tmps) ∧ ps.length = cargs.length
  | [], [], tm, tm', tmps, cargs, h, tr, ha => by
    rw [All2.nil_left] at ha; subst ha
    simp only [setParams, Option.some.injEq] at h; subst h
    exact ⟨tr, rfl⟩
  | p :: ps, a :: args, tm, tm', tmps, cargs, h, tr, ha => by
    obtain ⟨c, cr, rfl, h1, h2⟩ := All2.cons_left.1 ha
    simp only [setParams] at h
    split at h
    · rename_i hb
      have hlt : p < nt := Nat.le_of_ble_eq_true hb
      obtain ⟨g1, g2⟩ := setParams_rel h (tr.set hlt h1) h2
      exact ⟨g1, by simp [g2]⟩
    · cases h
  | [], _ :: _, _, _, _, _, h, _, _ => by cases h
  | _ :: _, [], _, _, _, _, h, _, _ => by cases h
theorem recover_rel {a : AFrame} {fr : Frame} (hk : fr.kind = a.kind) {acs : List AFrame} {cs : List Frame} (hcs : CS N φ acs cs) {v : AV} {acs' : List AFrame} (h : recoverA a acs = some (v, acs')) :
    (∃ cv cs', tryRecover fr (cs ++ bot) = some (cv, cs' ++ bot) ∧ VR φ v cv ∧ CS N φ acs' cs') ∨ tryRecover fr (cs ++ bot) = none ∧ v = .nilIface ∧ acs' = acs := by
  unfold recoverA at h
  split at h
  · rename_i hkn
    cases h
    right
    refine ⟨?_, rfl, rfl⟩
    rw [← hk] at hkn
    unfold tryRecover
    rw [hkn]
  · rename_i c rest hkn
    rw [← hk] at hkn
    obtain ⟨cc, cr, rfl, h1, h2⟩ := hcs
    have f5 := h1.mode
    split at h
    · rename_i v' older hm
      cases h
      left
      rw [hm] at f5
      obtain ⟨l', e, hl⟩ := f5
      obtain ⟨pe, lr, rfl, ⟨p1, p2, p3⟩, hl2⟩ := All2.cons_left.1 hl
      obtain ⟨pv, pr, pg⟩ := pe
      simp only at p1 p2 p3; subst p1; subst p2
      have hnew := h1.withMode (m := .panicking ({ v := v, recovered := true } :: older)) (m' := .panicking ({ v := pv, recovered := true } :: lr)) ⟨_, rfl, ⟨rfl, rfl, p3⟩, hl2⟩
      obtain ⟨cfn, ctmps, ctodo, cds, cmode, ckind, cro⟩ := cc
      simp only at e; subst e
      refine ⟨pv, ⟨cfn, ctmps, ctodo, cds, .panicking ({ v := pv, recovered := true } :: lr), ckind, cro⟩ :: cr, ?_, p3, ⟨_, _, rfl, hnew, h2⟩⟩
      unfold tryRecover
      rw [hkn]
      rfl
    · rename_i hm
      cases h
      right
      refine ⟨?_, rfl, rfl⟩
      unfold tryRecover
      rw [hkn]
      simp only [List.cons_append]
      cases hcm : c.mode with
      | run => rw [hcm] at f5; simp only [MR] at f5; rw [f5]
      | returning => rw [hcm] at f5; simp only [MR] at f5; rw [f5]
      | panicking ch =>
        rw [hcm] at f5
        obtain ⟨l', e, hl⟩ := f5
        rw [e]
        cases ch with
        | nil => rw [All2.nil_left] at hl; subst hl; rfl
        | cons p older =>
          obtain ⟨pe, lr, rfl, ⟨p1, p2, p3⟩, hl2⟩ := All2.cons_left.1 hl
          obtain ⟨pv, pr, pg⟩ := pe
          obtain ⟨av, ar⟩ := p
          simp only at p1 p2; subst p1; subst p2
          cases pr with
          | true => rfl
          | false => exact absurd hcm (hm _ _)
  · cases h
theorem yield_run {h : H} (hr : HR N φ h w) {l : Nat} {r : ALoop} {L : Loc} (hb : h.t.get l = some (.loop r)) (hL : φ l = some L) {args : List AV} {cargs : Array Value} {tm : T AV}
    (ha : All2 (VR φ) args cargs.toList) (hp : setParams r.nt r.tm r.params args = some tm) :
    ∃ tmps, (Instr.yield L.B cargs).run P w = .ok (.round L.B r.fn tmps r.assign r.body) w ∧ TR φ r.nt tm tmps := by
  obtain ⟨tmps, D, g0, g1, g2, g3, g4⟩ := loop_get (P := P) hr hb hL
  obtain ⟨p1, p2⟩ := setParams_rel hp g2 ha
  refine ⟨_, ?_, p1⟩
  have hsz : ¬ (cargs.size ≠ r.params.toArray.size) := by
    simp only [List.size_toArray, p2, Array.length_toList, ne_eq, not_true_eq_false, not_false_eq_true]
  simp only [Instr.yield, Sem.run_bind, g4, Result.andThen_ok, hsz, if_false, Sem.run_pure]
  congr 3
  rw [← Array.foldl_toList, Array.toList_zip]
theorem sim_apply (hK : HookOk P K) {ops : Array Oper} {o : Oper} {l : List Oper} {k : List AItem} (hs : SR N w0 φ s fr cs w) (hdr : s.fr.dr = none) (hm : s.fr.mode = .run) (ht : s.fr.todo = .ops ops (o :: l) :: k)
    (hw : wantedA s.fr ops o = true) (h : applyA P K s (execA P s.fr.tm s.h o.op) = some s') : Goes P N w0 bot φ fr cs w s' := by
  obtain ⟨hF, hcs, hh, hb, hN⟩ := hs
  have hf := hF.un hdr
  have hf' := hf
  obtain ⟨f1, f2, f3, f4, f5, f6, f7⟩ := hf
  rw [hm] at f5; simp only [MR] at f5
  rw [ht] at f3
  obtain ⟨ci, ck, hct, ⟨idx, hidx0, hidx⟩, hk⟩ := All2.cons_left.1 f3
  subst hidx0
  obtain ⟨i, rest, rfl, ho, hrest⟩ := opsR_cons hidx
  rw [wanted_rel f2] at hw
  have hrr := execA_rel (P := P) hh hN f2 o
  have hdef : fr.roundOf = none ∨ ∀ c, o.op ≠ .defer c := by
    cases hro : s.fr.roundOf with
    | none => rw [hro] at f7; exact .inl f7
    | some x =>
      right; intro c hc
      rw [hc] at h
      unfold execA at h
      obtain ⟨callee, args, ats⟩ := c
      cases callee with
      | value f =>
        simp only at h
        split at h
        · split at h
          · simp only [applyA, hro] at h; cases h
          · cases h
        · cases h
      | builtin b => cases h
      | invoke r m => cases h
  obtain ⟨cfn, ctmps, ctodo, cds, cmode, ckind, cro⟩ := fr
  simp only at hct f5 hdef hw hrr; subst hct; subst f5
  generalize hres : execA P s.fr.tm s.h o.op = r at h hrr
  cases r with
  | val v h' =>
    obtain ⟨φ', cv, w', e, hv, hle, hh', hb'⟩ := hrr
    simp only [applyA] at h
    split at h
    · rename_i fr' hfin
      cases h
      exact ⟨φ', _, cs, w', hle, m_value ho hw hdef e, ⟨finish_rel (hF.le hle) hv hfin, hcs.le hle, hh', hb.trans hb', Nat.le_trans hN hb'.size⟩⟩
    · cases h
  | skip h' =>
    obtain ⟨φ', w', e, hle, hh', hb'⟩ := hrr
    simp only [applyA] at h
    split at h
    · rename_i fr' hfin
      cases h
      exact ⟨φ', _, cs, w', hle, m_skipped ho hw hdef e, ⟨finish_rel (hF.le hle) VR_und hfin, hcs.le hle, hh', hb.trans hb', Nat.le_trans hN hb'.size⟩⟩
    · cases h
  | enter f args h' =>
    obtain ⟨cargs, e, ha, hh'⟩ := hrr
    simp only [applyA] at h
    split at h
    · rename_i v h2 hk2
      split at h
      · rename_i fr' hfin
        cases h
        obtain ⟨cv, w', ⟨φ', cv', q1, q2, q3, q4, q5⟩, hst⟩ := calls_steps (hK.call _ _ _ _ _ hk2 N φ w cargs hh' hN ha) (fun e w' ⟨_, cv, he, _⟩ => ⟨cv, he⟩) ⟨cfn, ctmps, .inRegion ops (i :: rest) :: ck, cds, .run, ckind, cro⟩ (cs ++ bot)
        cases q1
        exact ⟨φ', _, cs, w', q2, Steps.trans (m_enter ho hw hdef e) hst, ⟨finish_rel (hF.le q2) q3 hfin, hcs.le q2, q4, hb.trans q5, Nat.le_trans hN q5.size⟩⟩
      · cases h
    split at h
    · rename_i fr' hen
      cases h
      exact ⟨φ, _, _ :: cs, w, φ.le_refl, m_enter ho hw hdef e, ⟨.mk (enter_dr hen) (enter_rel ha hen), ⟨_, _, rfl, hF, hcs⟩, hh', hb, hN⟩⟩
    · cases h
  | ext f args h' =>
    obtain ⟨cargs, e, ha, hh'⟩ := hrr
    simp only [applyA] at h
    split at h
    · rename_i v h2 hk2
      split at h
      · rename_i fr' hfin
        cases h
        obtain ⟨φ', cv, w', q1, q2, q3, q4, q5⟩ := hK.ext _ _ _ _ _ hk2 N φ w cargs hh' hN ha
        rw [q1] at e
        exact ⟨φ', _, cs, w', q2, m_value ho hw hdef e, ⟨finish_rel (hF.le q2) q3 hfin, hcs.le q2, q4, hb.trans q5, Nat.le_trans hN q5.size⟩⟩
      · cases h
    · cases h
  | round lp args h' =>
    obtain ⟨L, cargs, hL, e, ha, hh'⟩ := hrr
    simp only [applyA] at h
    split at h
    · rename_i rl hlp
      split at h
      · rename_i tm' hsp
        cases h
        obtain ⟨tmps', hy, htr⟩ := yield_run (P := P) hh' hlp hL ha hsp
        rw [hy] at e
        refine ⟨φ, _, _ :: cs, w, φ.le_refl, m_round ho hw hdef e, ⟨.mk rfl ⟨rfl, htr, ⟨rfl, rfl, rfl, trivial⟩, trivial, rfl, rfl, ⟨L, hL, rfl⟩⟩, ⟨_, _, rfl, hF, hcs⟩, hh', hb, hN⟩⟩
      · cases h
    · cases h
  | defer d h' =>
    obtain ⟨cd, e, hd, hh'⟩ := hrr
    simp only [applyA] at h
    split at h
    · cases h
    · rename_i hro
      rw [hro] at f7; simp only [RoR] at f7; subst f7
      split at h
      · rename_i fr' hfin
        cases h
        have hf2 : FR φ { s.fr with defers := d :: s.fr.defers } ⟨cfn, ctmps, .inRegion ops (i :: rest) :: ck, cd :: cds, .run, ckind, none⟩ :=
          ⟨f1, f2, hf'.todo, ⟨hd, f4⟩, hf'.mode, f6, by rw [hro]; rfl⟩
        exact ⟨φ, _, cs, w, φ.le_refl, m_defer ho hw e, ⟨finish_rel (k := s.cs.length) (c := { s.fr with defers := d :: s.fr.defers }) (.mk hdr hf2) VR_und hfin, hcs, hh', hb, hN⟩⟩
      · cases h
  | recover h' =>
    obtain ⟨e, hh'⟩ := hrr
    simp only [applyA] at h
    split at h
    · cases h
    · rename_i hro
      rw [hro] at f7; simp only [RoR] at f7; subst f7
      split at h
      · rename_i v acs' hrec
        split at h
        · rename_i fr' hfin
          cases h
          have hst := m_recover (P := P) (cs := cs ++ bot) (k := ck) (ds := cds) (kd := ckind) (fn := cfn) (rest := rest) ho hw e
          rcases recover_rel (bot := bot) (fr := ⟨cfn, ctmps, .inRegion ops (i :: rest) :: ck, cds, .run, ckind, none⟩) f6 hcs hrec with ⟨cv, cs', q1, q2, q3⟩ | ⟨q1, q2, q3⟩
          · rw [q1] at hst
            exact ⟨φ, _, cs', w, φ.le_refl, hst, ⟨.mk ((finish_dr' hdr hfin)) (finish1_rel hf' q2 (finish_1 hdr hfin)), q3, hh', hb, hN⟩⟩
          · rw [q1] at hst
            subst q2; subst q3
            exact ⟨φ, _, cs, w, φ.le_refl, hst, ⟨.mk ((finish_dr' hdr hfin)) (finish1_rel hf' (VR_nilIface.2 rfl) (finish_1 hdr hfin)), hcs, hh', hb, hN⟩⟩
        · cases h
      · cases h
  | panic v h' =>
    obtain ⟨cv, e, hv, hh'⟩ := hrr
    simp only [applyA] at h
    split at h
    · rename_i fr' hra
      cases h
      exact ⟨φ, _, cs, w, φ.le_refl, m_panic ho hw hdef e, ⟨raise_rel hF (l := [{ v, recovered := false }]) (l' := [{ v := cv, recovered := false }]) ⟨⟨rfl, rfl, hv⟩, trivial⟩ hra, hcs, hh', hb, hN⟩⟩
    · cases h
  | fail => cases h
theorem sim_rangeFunc {f : Operand} {ps : Array Tmp} {a b : Code} {k : List AItem} (hs : SR N w0 φ s fr cs w) (hdr : s.fr.dr = none) (hm : s.fr.mode = .run) (ht : s.fr.todo = .code (.rangeFunc f ps a b) :: k)
    (h : enterLoopA P s f ps a b k = some s') : Goes P N w0 bot φ fr cs w s' := by
  obtain ⟨hF, hcs, hh, hb, hN⟩ := hs
  have hf := hF.un hdr
  have hf' := hf
  obtain ⟨f1, f2, f3, f4, f5, f6, f7⟩ := hf
  rw [hm] at f5; simp only [MR] at f5
  rw [ht] at f3
  obtain ⟨ci, ck, hct, hci, hk⟩ := All2.cons_left.1 f3
  simp only [IR] at hci; subst hci
  obtain ⟨cfn, ctmps, ctodo, cds, cmode, ckind, cro⟩ := fr
  simp only at hct f5 f1 f2; subst hct; subst f5
  -- the call of the function, once the loop's record lies there
  have call : ∀ {φ' : Phi} {h1 : H} {w1 : World} {l : Nat} {L : Loc} {f' : AV} {g : FuncId} {args : List AV} {h2 : H}, φ.le φ' → HR N φ' h1 w1 → φ' l = some L → evalA s.fr.tm f = some f' →
      callV P f' [.yield l] h1 = .enter g args h2 →
      h2 = h1 ∧ ∃ cargs, ((do let d ← resolve (ev ctmps) { callee := .value f, args := #[.const (.func (.yield L.B) #[] #[])], argTypes := #[] } 0; invoke d.target d.args) : Sem Next).run P w1 = .ok (.enter g cargs) w1 ∧ All2 (VR φ') args cargs.toList := by
    intro φ' h1 w1 l L f' g args h2 hle hr1 hL hev hcall
    have hv := (evalA_rel f2 hev).le hle
    have hrr := callV_rel (P := P) hr1 hv (args := [.yield l]) (cargs := #[.func (.yield L.B) #[] #[]]) ⟨VR_yield.2 ⟨L, hL, rfl⟩, trivial⟩
    rw [hcall] at hrr
    obtain ⟨cargs, e1, e2, e3⟩ := hrr
    refine ⟨?_, cargs, ?_, e2⟩
    · unfold callV at hcall
      split at hcall
      · split at hcall
        · cases hcall; rfl
        · cases hcall
      · cases hcall
      · cases hcall
    · simpa [resolve, ev] using e1
  unfold enterLoopA at h
  split at h
  · rename_i f' hev
    simp only at h
    split at h
    · -- within a round
      rename_i lo hro
      have h7 := f7
      rw [hro] at h7
      obtain ⟨Lo, hLo, hro'⟩ := h7
      simp only at hro'; subst hro'
      split at h
      · rename_i r hlo
        split at h
        · rename_i g args h2 hcall
          split at h
          · rename_i fr' hen
            cases h
            obtain ⟨tmps0, D, g0, g1, g2, ⟨M, hM, hDM⟩, g4⟩ := loop_get (P := P) hh hlo hLo
            obtain ⟨O, hO⟩ : ∃ O : Obj, O = .loop { state := .ready, pending := none, fn := cfn, tmps := ctmps, params := ps, assign := a, body := b, defers := D } := ⟨_, rfl⟩
            have hp := obj_push hh (o := .loop { state := .ready, pending := none, fn := s.fr.fn, nt := s.fr.nt, tm := s.fr.tm, params := ps.toList, assign := a, body := b, defers := r.defers }) (O := O)
              (fun ψ hle => ⟨hN, ctmps, D, by rw [hO, ← f1]; simp, f2.le hle, M, hle _ _ hM, hDM⟩)
            obtain ⟨e1, cargs, e2, e3⟩ := call hp.2 hp.1 (Phi.ins_same _ _ _) hev hcall
            subst e1
            have hrun : (Instr.enterLoop cfn ctmps ps a b (some Lo.B)).run P w = .ok (w.heap.size, []) { w with heap := w.heap.push O } := by
              simp only [Instr.enterLoop, Sem.run_bind, g4, Result.andThen_ok, Sem.run_pure, run_newObj, hO]
            refine ⟨_, _, _ :: cs, _, hp.2, m_rangeFunc hrun e2, ⟨.mk (enter_dr hen) (enter_rel e3 hen), ⟨_, _, rfl, .mk hdr ⟨f1, f2.le hp.2, ⟨⟨_, Phi.ins_same _ _ _, rfl⟩, hk.mono fun _ _ => IR.le hp.2⟩, ?_, by rw [hm]; rfl, f6, RoR.le hp.2 f7⟩, hcs.le hp.2⟩, hp.1, hb.trans (below_push _ hN), by simp; omega⟩⟩
            exact f4.mono fun _ _ => DR.le hp.2
          · cases h
        · cases h
      · cases h
    · -- outside of rounds
      rename_i hro
      have h7 := f7
      rw [hro] at h7
      simp only [RoR] at h7; subst h7
      split at h
      · rename_i g args h2 hcall
        split at h
        · rename_i fr' hen
          cases h
          have hp0 := obj_push hh (o := .deferred (some [])) (O := .deferred (some [])) (fun ψ hle => ⟨hN, some [], by simp, [], rfl, trivial⟩)
          obtain ⟨w1, hw1⟩ : ∃ w1 : World, w1 = { w with heap := w.heap.push (.deferred (some [])) } := ⟨_, rfl⟩
          rw [← hw1] at hp0
          have hsz1 : w1.heap.size = w.heap.size + 1 := by rw [hw1]; simp
          have hN1 : N ≤ w1.heap.size := by omega
          obtain ⟨O, hO⟩ : ∃ O : Obj, O = .loop { state := .ready, pending := none, fn := cfn, tmps := ctmps, params := ps, assign := a, body := b, defers := w.heap.size } := ⟨_, rfl⟩
          have hp := obj_push hp0.1 (o := .loop { state := .ready, pending := none, fn := s.fr.fn, nt := s.fr.nt, tm := s.fr.tm, params := ps.toList, assign := a, body := b, defers := s.h.nx }) (O := O)
            (fun ψ hle => ⟨hN1, ctmps, w.heap.size, by rw [hO, ← f1]; simp, (f2.le hp0.2).le hle, _, hle _ _ (Phi.ins_same _ _ _), rfl⟩)
          have hle := Phi.le_trans hp0.2 hp.2
          obtain ⟨e1, cargs, e2, e3⟩ := call hle hp.1 (Phi.ins_same _ _ _) hev hcall
          subst e1
          have hrun : (Instr.enterLoop cfn ctmps ps a b none).run P w = .ok (w1.heap.size, [{ target := .collected w.heap.size, args := #[] }]) { w1 with heap := w1.heap.push O } := by
            simp only [Instr.enterLoop, Sem.run_bind, run_newObj, Result.andThen_ok, Sem.run_pure, hO, hw1]
          refine ⟨_, _, _ :: cs, _, hle, m_rangeFunc hrun e2, ⟨.mk (enter_dr hen) (enter_rel e3 hen), ⟨_, _, rfl, .mk hdr ⟨f1, f2.le hle, ⟨⟨_, Phi.ins_same _ _ _, rfl⟩, hk.mono fun _ _ => IR.le hle⟩, ⟨⟨_, hp.2 _ _ (Phi.ins_same _ _ _), rfl⟩, f4.mono fun _ _ => DR.le hle⟩, by rw [hm]; rfl, f6, RoR.le hle f7⟩, hcs.le hle⟩, hp.1,
            (hb.trans (by rw [hw1]; exact below_push _ hN)).trans (below_push _ hN1), by simp; omega⟩⟩
        · cases h
      · cases h
  · cases h
theorem asAddr_run {a : Addr} : (asAddr (.pointer (some a))).run P w = .ok a w := rfl
theorem evalRes_rel {h : H} (hr : HR N φ h w) {nt : Nat} {tm : T AV} {tmps : Array Value} (tr : TR φ nt tm tmps) : ∀ {g : ResultVar → Sem Value} (_ : ∀ t, g (.tmp t) = pure (tmps.getD t undef)) (_ : ∀ a t, g (.cell a t) = do loadVar t (← asAddr (tmps.getD a undef))) {l : List ResultVar} {vs : List AV}, evalRes P tm h l = some vs →
    ∃ cvs : List Value, (l.mapM g).run P w = .ok cvs w ∧ All2 (VR φ) vs cvs
  | _, _, _, [], vs, h => by simp only [evalRes, Option.some.injEq] at h; subst h; exact ⟨[], rfl, trivial⟩
  | g, ga, gb, .tmp t :: l, vs, h => by
    simp only [evalRes] at h
    split at h
    · rename_i vs' hvs
      cases h
      obtain ⟨cvs, h1, h2⟩ := evalRes_rel hr tr ga gb hvs
      refine ⟨tmps.getD t undef :: cvs, ?_, tr.2 t, h2⟩
      simp only [List.mapM_cons, ga, Sem.run_bind, Sem.run_pure, Result.andThen_ok, h1]
    · cases h
  | g, ga, gb, .cell a t :: l, vs, h => by
    simp only [evalRes] at h
    split at h
    · rename_i b o hok hta
      have hpa := tr.2 a
      rw [hta, Option.getD_some, VR_ptr] at hpa
      obtain ⟨L, hL, hpa⟩ := hpa
      split at h
      · rename_i v vs' hv hvs
        cases h
        obtain ⟨cvs, h1, h2⟩ := evalRes_rel hr tr ga gb hvs
        obtain ⟨L', hL', cv, h3, h4⟩ := loadV_rel (P := P) hr hL hok hv
        rw [hL] at hL'; cases hL'
        refine ⟨cv :: cvs, ?_, h4, h2⟩
        simp only [List.mapM_cons, gb, Sem.run_bind, hpa, asAddr_run, Sem.run_pure, Result.andThen_ok, h3, h1]
      · cases h
    · cases h
def resFn (tmps : Array Value) (x : ResultVar) : Sem Value :=
  match x with
  | .tmp t => pure (tmps.getD t undef)
  | .cell a t => do loadVar t (← asAddr (tmps.getD a undef))
theorem results_eq (fn : Func) (tmps : Array Value) : results fn tmps = (do let vs ← fn.results.mapM (resFn tmps); pure (if h : vs.size = 1 then vs[0] else .tuple vs)) := by
  unfold results
  rfl
theorem resA_rel {h : H} (hr : HR N φ h w) {nt : Nat} {tm : T AV} {tmps : Array Value} (tr : TR φ nt tm tmps) {fn : Func} {v : AV} (hv : resA P fn tm h = some v) :
    ∃ cv, (results fn tmps).run P w = .ok cv w ∧ VR φ v cv := by
  have key : ∀ vs, evalRes P tm h fn.results.toList = some vs → ∃ cvs : List Value, (results fn tmps).run P w = .ok (if hh : cvs.toArray.size = 1 then cvs.toArray[0] else .tuple cvs.toArray) w ∧ All2 (VR φ) vs cvs := by
    intro vs hvs
    rw [results_eq]
    simp only [Sem.run_bind, Array.mapM_eq_mapM_toList, Sem.run_map]
    obtain ⟨cvs, h1, h2⟩ := evalRes_rel (P := P) hr tr (g := resFn tmps) (fun _ => rfl) (fun _ _ => rfl) hvs
    refine ⟨cvs, ?_, h2⟩
    rw [h1]
    rfl
  unfold resA at hv
  split at hv
  · rename_i v' hvs
    cases hv
    obtain ⟨cvs, h1, h2⟩ := key _ hvs
    obtain ⟨c, cr, rfl, h3, h4⟩ := All2.cons_left.1 h2
    rw [All2.nil_left] at h4; subst h4
    exact ⟨c, by rw [h1]; rfl, h3⟩
  · rename_i vs hne hvs
    cases hv
    obtain ⟨cvs, h1, h2⟩ := key _ hvs
    refine ⟨.tuple cvs.toArray, ?_, VR_tuple.2 ⟨_, rfl, h2⟩⟩
    rw [h1]
    have : ¬ cvs.toArray.size = 1 := by
      intro e
      have hl : vs.length = 1 := by rw [h2.length]; simpa using e
      match vs, hl with
      | [v], _ => exact hne v rfl
    rw [dif_neg this]
  · cases hv
theorem settle_not {c : AMode} {m : FrameMode} (h : MR φ c m) (hn : ∀ v older, c ≠ .panicking ({ v, recovered := true } :: older)) : settle m = m := by
  cases c with
  | run => simp only [MR] at h; subst h; rfl
  | returning => simp only [MR] at h; subst h; rfl
  | panicking l =>
    obtain ⟨l', rfl, hl⟩ := h
    cases l with
    | nil => rw [All2.nil_left] at hl; subst hl; rfl
    | cons p older =>
      obtain ⟨pe, lr, rfl, ⟨p1, p2, p3⟩, hl2⟩ := All2.cons_left.1 hl
      obtain ⟨pv, pr, pg⟩ := pe
      obtain ⟨av, ar⟩ := p
      simp only at p1 p2; subst p1; subst p2
      cases pr with
      | true => exact absurd rfl (hn _ _)
      | false => rfl
theorem settle_yes {l : List APanic} {v : AV} {m : FrameMode} (h : MR φ (.panicking ({ v, recovered := true } :: l)) m) : settle m = .returning := by
  obtain ⟨l', rfl, hl⟩ := h
  obtain ⟨pe, lr, rfl, ⟨p1, p2, p3⟩, hl2⟩ := All2.cons_left.1 hl
  obtain ⟨pv, pr, pg⟩ := pe
  simp only at p1 p2; subst p1; subst p2
  unfold settle
  have : lr.dropWhile (!·.goexit) = [] := by
    have : ∀ (l : List APanic) (lr : List PanicEntry), All2 (PR φ) l lr → lr.dropWhile (!·.goexit) = [] := by
      intro l
      induction l with
      | nil => intro lr h; rw [All2.nil_left] at h; subst h; rfl
      | cons p l ih =>
        intro lr h
        obtain ⟨pe, lr', rfl, ⟨_, p2, _⟩, h2⟩ := All2.cons_left.1 h
        rw [List.dropWhile_cons_of_pos (by simp [p2])]
        exact ih lr' h2
    exact this l lr hl2
  simp only [this]
theorem sim_unwind (hs : SR N w0 φ s fr cs w) (hdr : s.fr.dr = none) (hm : s.fr.mode ≠ .run) (h : unwindA P s = some s') : Goes P N w0 bot φ fr cs w s' := by
  obtain ⟨hF, hcs, hh, hb, hN⟩ := hs
  have hf := hF.un hdr
  have hf' := hf
  obtain ⟨f1, f2, f3, f4, f5, f6, f7⟩ := hf
  have hmode : fr.mode ≠ .run := by
    cases hmm : s.fr.mode with
    | run => exact absurd hmm hm
    | returning => rw [hmm] at f5; simp only [MR] at f5; rw [f5]; simp
    | panicking l => rw [hmm] at f5; obtain ⟨l', e, _⟩ := f5; rw [e]; simp
  obtain ⟨cfn, ctmps, ctodo, cds, cmode, ckind, cro⟩ := fr
  simp only at f1 f2 f3 f4 f5 f6 f7 hmode
  unfold unwindA at h
  split at h
  · rename_i r ds hds
    rw [hds] at f4
    obtain ⟨cd, cr, rfl, ⟨L, hL, rfl⟩, hr⟩ := All2.cons_left.1 f4
    split at h
    · rename_i calls hb'
      cases h
      obtain ⟨hNL, c, g1, l', rfl, g2⟩ := hh.get hb' hL
      have hlt := (hh.get hb' hL).lt
      have hrun : (Instr.takeDeferred L.B).run P w = .ok l' (setB w L.B (.deferred none)) := by
        simp only [Instr.takeDeferred, Sem.run_bind, getObj_run g1 (fun _ _ _ => by simp), Result.andThen_ok, setObj_run g1 (fun _ _ _ => by simp), Sem.run_pure]
      refine ⟨φ, _, cs, _, φ.le_refl, m_collected hmode hrun, ⟨.mk hdr ⟨f1, f2, f3, g2.append hr, f5, f6, f7⟩, hcs, ?_, hb.trans (below_setB _ hNL), by rw [setB_size]; exact hN⟩⟩
      exact hh.set hb' hL _ (fun k hk => by rw [setB_get hlt, if_neg hk]) ⟨hNL, none, by rw [setB_get hlt, if_pos rfl], rfl⟩
    · cases h
  · rename_i f args cap ds hds
    rw [hds] at f4
    obtain ⟨cd, cr, rfl, ⟨a, b, rfl, h1, h2⟩, hr⟩ := All2.cons_left.1 f4
    split at h
    · rename_i hok
      split at h
      · rename_i fr' hen
        cases h
        have hrun : (invoke (.fn (.func f) b) a).run P w = .ok (.enter f (a ++ b)) w := by
          simp only [invoke, callFunc_run hok]
        exact ⟨φ, _, _ :: cs, w, φ.le_refl, m_deferred hmode hrun, ⟨.mk (enter_dr hen) (enter_rel (by rw [Array.toList_append]; exact h1.append h2) hen), ⟨_, _, rfl, .mk hdr ⟨f1, f2, f3, hr, f5, f6, f7⟩, hcs⟩, hh, hb, hN⟩⟩
      · cases h
    · cases h
  · rename_i hds
    rw [hds, All2.nil_left] at f4; subst f4
    split at h
    · rename_i hmm; exact absurd hmm hm
    · rename_i chain hmm
      split at h
      · rename_i c acs fn hc hfn
        rw [hc] at hcs
        obtain ⟨cc, ccs, rfl, hc1, hc2⟩ := hcs
        rw [hmm] at f5
        obtain ⟨l', rfl, hl⟩ := f5
        rw [← f1] at hfn
        split at h
        · rename_i c' hra
          cases h
          exact ⟨φ, _, ccs, w, φ.le_refl, m_raise hfn, ⟨raise_rel hc1 hl hra, hc2, hh, hb, hN⟩⟩
        · cases h
      · cases h
    · rename_i hmm
      rw [hmm] at f5; simp only [MR] at f5; subst f5
      split at h
      · rename_i fn hfn
        rw [← f1] at hfn
        split at h
        · rename_i v hv
          obtain ⟨cv, hr, hvr⟩ := resA_rel (P := P) hh f2 hv
          unfold doRet at h
          split at h
          · cases h
          · rename_i c acs hc
            rw [hc] at hcs
            obtain ⟨cc, ccs, rfl, hc1, hc2⟩ := hcs
            split at h
            · rename_i hk
              rw [hk] at f6; subst f6
              split at h
              · rename_i c' hfin
                cases h
                exact ⟨φ, _, ccs, w, φ.le_refl, m_return hfn hr, ⟨finish_rel hc1 hvr hfin, hc2, hh, hb, hN⟩⟩
              · cases h
            · rename_i hk
              rw [hk] at f6; subst f6
              split at h
              · rename_i v' older hcm
                cases h
                have hst := m_returnD (cs := ccs ++ bot) (ro := cro) (todo := ctodo) (c := cc) hfn hr
                have h5 := hc1.mode
                rw [hcm] at h5
                rw [settle_yes h5] at hst
                exact ⟨φ, _, ccs, w, φ.le_refl, hst, ⟨hc1.withMode rfl, hc2, hh, hb, hN⟩⟩
              · rename_i hcm
                cases h
                have hst := m_returnD (cs := ccs ++ bot) (ro := cro) (todo := ctodo) (c := cc) hfn hr
                rw [settle_not hc1.mode (fun v older e => hcm v older e)] at hst
                exact ⟨φ, _, ccs, w, φ.le_refl, hst, ⟨hc1, hc2, hh, hb, hN⟩⟩
            · cases h
        · cases h
      · cases h
end
end Go.AX


/-
  gens: the plain laws of GensCompact and GensBack.
  gens: small laws that several walks use.
  gens: the document's answer, walked: what tells.
  gens: the document's answer, walked: with, last, At, Since.
  gens: the document's answer, walked: Since, Put, Tomb, Restore.
  gens: the document's answer, walked: Restore, Compact.
  gens: the document's answer, walked: Compact.
  gens: works.
-/
import Derived.Test.YtlkngpckibidlaaAxI
import Derived.Test.YtlkngpckibidlaaG1
set_option linter.unusedSimpArgs false
set_option linter.unusedVariables false
namespace Go.Proofs.Ytlkngpckibidlaa.W
open Go Go.AX
noncomputable section
theorem split_at {B : List Ch} (m : Nat) (hB : Rising B) : ∃ P Q, B = P ++ Q ∧ (∀ c, c ∈ P → c.rev.1 ≤ m) ∧ ∀ c, c ∈ Q → m < c.rev.1 := by
  induction B with
  | nil => exact ⟨[], [], rfl, (fun _ h => by cases h), fun _ h => by cases h⟩
  | cons a B ih =>
    unfold Rising at hB
    rw [List.pairwise_cons] at hB
    rcases Nat.lt_or_ge m a.rev.1 with q | q
    · refine ⟨[], a :: B, rfl, (fun _ h => by cases h), fun c hc => ?_⟩
      rcases List.mem_cons.1 hc with rfl | hc
      · exact q
      · exact Nat.lt_of_lt_of_le q (above_le (hB.1 c hc))
    · obtain ⟨P, Q, rfl, hP, hQ⟩ := ih hB.2
      refine ⟨a :: P, Q, rfl, fun c hc => ?_, hQ⟩
      rcases List.mem_cons.1 hc with rfl | hc
      · exact q
      · exact hP c hc
def headK (P : List Ch) : List Ch :=
  match P.getLast? with
  | some c => if c.tomb then [] else [c]
  | none => []
theorem headK_mem {P : List Ch} {c : Ch} (h : c ∈ headK P) : c ∈ P ∧ c.tomb = false := by
  unfold headK at h
  split at h
  · rename_i d hd
    split at h
    · cases h
    · rename_i ht
      rw [List.mem_singleton] at h; subst h
      exact ⟨List.mem_of_getLast? hd, by simpa using ht⟩
  · cases h
theorem filter_all {α : Type} {p : α → Bool} {l : List α} (h : ∀ x, x ∈ l → p x = true) : l.filter p = l := List.filter_eq_self.2 h
theorem filter_none {α : Type} {p : α → Bool} {l : List α} (h : ∀ x, x ∈ l → p x = false) : l.filter p = [] := List.filter_eq_nil_iff.2 fun x hx => by rw [h x hx]; simp
theorem comp_split {P Q : List Ch} {m : Nat} (hP : ∀ c, c ∈ P → c.rev.1 ≤ m) (hQ : ∀ c, c ∈ Q → m < c.rev.1) : compA (P ++ Q) m = headK P ++ Q := by
  have hl : lst (atP m) (P ++ Q) = P.getLast? := by
    unfold lst atP
    rw [List.filter_append, filter_all (fun c hc => decide_eq_true (hP c hc)), filter_none (fun c hc => decide_eq_false (by have := hQ c hc; omega)), List.append_nil]
  unfold compA
  rw [hl, List.filter_append, filter_none (fun c hc => decide_eq_false (by have := hP c hc; omega)), filter_all (fun c hc => decide_eq_true (hQ c hc)), List.nil_append]
  rfl
def isK (A : List Ch) (m : Nat) : List Ch :=
  match lst (atP m) A with
  | some c => if c.tomb then [] else [c]
  | none => []
theorem isK_split {P Q : List Ch} {m : Nat} (hP : ∀ c, c ∈ P → c.rev.1 ≤ m) : isK (P ++ Q) m = match lst (atP m) Q with | some c => if c.tomb then [] else [c] | none => headK P := by
  unfold isK lst
  rw [List.filter_append, filter_all (p := atP m) (l := P) (fun c hc => decide_eq_true (hP c hc)), List.getLast?_append]
  cases (Q.filter (atP m)).getLast? <;> rfl
theorem isK_comp {A : List Ch} (hr : Rising A) {c m : Nat} (hm : c ≤ m) : isK (compA A c) m = isK A m := by
  obtain ⟨P, Q, rfl, hP, hQ⟩ := split_at c hr
  rw [comp_split hP hQ, isK_split (fun x hx => Nat.le_trans (hP x (headK_mem hx).1) hm), isK_split (fun x hx => Nat.le_trans (hP x hx) hm)]
  cases lst (atP m) Q with
  | some d => rfl
  | none =>
    simp only
    unfold headK
    cases hp : P.getLast? with
    | none => rfl
    | some d =>
      cases ht : d.tomb with
      | true => simp [ht]
      | false => simp [ht]
theorem compA_isK (A : List Ch) (m : Nat) : compA A m = isK A m ++ A.filter fun c => decide (m < c.rev.1) := id rfl
theorem filter_comp {A : List Ch} (hr : Rising A) {c d : Nat} (h : c ≤ d) : (compA A c).filter (fun x => decide (d < x.rev.1)) = A.filter fun x => decide (d < x.rev.1) := by
  obtain ⟨P, Q, rfl, hP, hQ⟩ := split_at c hr
  rw [comp_split hP hQ, List.filter_append, List.filter_append, filter_none (fun x hx => decide_eq_false (by have := hP x (headK_mem hx).1; omega)), filter_none (l := P) (fun x hx => decide_eq_false (by have := hP x hx; omega))]
theorem compA_comp {A : List Ch} (hr : Rising A) {c d : Nat} (h : c ≤ d) : compA (compA A c) d = compA A d := by
  rw [compA_isK, isK_comp hr h, filter_comp hr h, compA_isK A d]
theorem since_comp {A : List Ch} (hr : Rising A) (c : Nat) : sinceL (c + 1) (compA A c) = sinceL (c + 1) A := by
  unfold sinceL
  rw [show (fun x : Ch => decide (c + 1 ≤ x.rev.1)) = fun x => decide (c < x.rev.1) from rfl, filter_comp hr (Nat.le_refl c)]
theorem atB_isK (L : List Gn) (m : Nat) : atB L m = !(isK (all L) m).isEmpty := by
  unfold atB isK lstB lstC
  cases lst (atP m) (all L) with
  | none => rfl
  | some c => cases ht : c.tomb <;> simp [ht]
theorem atK_isK (L : List Gn) (m : Nat) : atK L m = (isK (all L) m).headD ch0 := by
  have := atB_isK L m
  unfold atK
  rw [this]
  unfold isK lstC
  cases lst (atP m) (all L) with
  | none => rfl
  | some c => cases ht : c.tomb <;> simp [ht]
theorem compK_isK (L : List Gn) (m : Nat) : compK L m = (isK (all L) m).map (·.rev) := by
  unfold compK
  rw [atB_isK, atK_isK]
  unfold isK
  cases lst (atP m) (all L) with
  | none => rfl
  | some c => cases ht : c.tomb <;> simp [ht]
theorem isK_mem {A : List Ch} {m : Nat} {c : Ch} (h : c ∈ isK A m) : c ∈ A ∧ c.tomb = false := by
  unfold isK at h
  split at h
  · rename_i d hd
    split at h
    · cases h
    · rename_i ht
      rw [List.mem_singleton] at h; subst h
      exact ⟨(List.mem_filter.1 (List.mem_of_getLast? hd)).1, by simpa using ht⟩
  · cases h
theorem isK_len (A : List Ch) (m : Nat) : (isK A m).length ≤ 1 := by
  unfold isK
  split
  · split <;> simp
  · simp
def NthPos (A : List Ch) : Prop := ∀ c, c ∈ A → c.tomb = false → 0 < c.nth
theorem atIs_of {L M : List Gn} {m : Nat} (he : isK (all L) m = isK (all M) m) (hp : NthPos (all M)) : atIs L m (atK M m).rev (atK M m).made (atK M m).nth = true ∧ (atB M m == decide (0 < (atK M m).nth)) = true := by
  have e1 : atK L m = atK M m := by rw [atK_isK, atK_isK, he]
  have e2 : atB L m = atB M m := by rw [atB_isK, atB_isK, he]
  have e3 : (atB M m == decide (0 < (atK M m).nth)) = true := by
    rw [atB_isK, atK_isK]
    cases q : isK (all M) m with
    | nil => simp [ch0]
    | cons c l =>
      have := isK_mem (c := c) (A := all M) (m := m) (by rw [q]; simp)
      have := hp c this.1 this.2
      simp [this]
  unfold atIs
  rw [e1, e2, e3]
  simp
structure ChOk (c : Ch) : Prop where
  pos : 0 < c.rev.1
  tb : c.tomb = true → c.made = 0 ∧ c.nth = 0
  nt : c.tomb = false → 0 < c.made ∧ c.made ≤ c.rev.1 ∧ 0 < c.nth ∧ c.nth < M64
structure Link (a b : Ch) : Prop where
  tb : b.tomb = true → a.tomb = false
  nw : b.tomb = false → a.tomb = true → a.rev.1 < b.made
  nx : b.tomb = false → a.tomb = false → b.made = a.made ∧ b.nth = (a.nth + 1) % M64
  lt : a.rev.1 < b.rev.1
structure Good (A : List Ch) : Prop where
  hd : ∀ c l, A = c :: l → c.tomb = false
  ok : ∀ c, c ∈ A → ChOk c
  ln : ∀ i a b, A[i]? = some a → A[i + 1]? = some b → Link a b
theorem Good.nil : Good [] := ⟨fun _ _ h => (by cases h), fun _ h => (by cases h), fun i a b h => by simp at h⟩
theorem Good.snoc {A : List Ch} (h : Good A) {x : Ch} (h0 : A = [] → x.tomb = false) (hx : ChOk x) (hl : ∀ a, A.getLast? = some a → Link a x) : Good (A ++ [x]) := by
  refine ⟨fun c l e => ?_, fun c hc => ?_, fun i a b ha hb => ?_⟩
  · cases A with
    | nil => simp at e; rw [← e.1]; exact h0 rfl
    | cons d A => simp at e; exact h.hd c A (by rw [e.1])
  · rcases List.mem_append.1 hc with q | q
    · exact h.ok c q
    · rw [List.mem_singleton] at q; subst q; exact hx
  · rcases Nat.lt_or_ge (i + 1) A.length with q | q
    · rw [List.getElem?_append_left (by omega)] at ha
      rw [List.getElem?_append_left q] at hb
      exact h.ln i a b ha hb
    · rw [List.getElem?_append_right q] at hb
      have hi : i + 1 - A.length = 0 := by
        rcases Nat.eq_zero_or_pos (i + 1 - A.length) with e | e
        · exact e
        · rw [List.getElem?_eq_none (by simp; omega)] at hb; cases hb
      rw [hi] at hb; simp at hb; subst hb
      rw [List.getElem?_append_left (by omega)] at ha
      refine hl a ?_
      rw [List.getLast?_eq_getElem?, show A.length - 1 = i by omega]; exact ha
theorem Good.drop {A : List Ch} (h : Good A) (k : Nat) (hk : ∀ c, A[k]? = some c → c.tomb = false) : Good (A.drop k) := by
  refine ⟨fun c l e => hk c ?_, fun c hc => h.ok c (List.mem_of_mem_drop hc), fun i a b ha hb => ?_⟩
  · have := congrArg (·[0]?) e
    simpa using this
  · rw [List.getElem?_drop] at ha hb
    exact h.ln (k + i) a b ha (by rw [← hb]; congr 1)
theorem Good.comp {A : List Ch} (h : Good A) (hr : Rising A) (m : Nat) : Good (compA A m) := by
  obtain ⟨P, Q, rfl, hP, hQ⟩ := split_at m hr
  rw [comp_split hP hQ]
  rcases list_last P with rfl | ⟨Y, c, rfl⟩
  · exact h
  · unfold headK
    rw [List.getLast?_append, List.getLast?_singleton, Option.some_or]
    cases ht : c.tomb with
    | true =>
      have e : (Y ++ [c] ++ Q).drop (Y.length + 1) = Q := by
        rw [List.drop_append_of_le_length (by simp), List.drop_eq_nil_of_le (by simp)]; rfl
      simp only [ht, if_true, List.nil_append]
      have hd := h.drop (Y.length + 1) (fun x hx => ?_)
      · rwa [e] at hd
      have hl := h.ln Y.length c x (by simp) hx
      cases hxt : x.tomb with
      | false => rfl
      | true => have := hl.tb hxt; rw [ht] at this; cases this
    | false =>
      simp only [ht, Bool.false_eq_true, if_false]
      have e : (Y ++ [c] ++ Q).drop Y.length = [c] ++ Q := by
        rw [List.append_assoc, List.drop_append_of_le_length (by simp), List.drop_length]; rfl
      have hd := h.drop Y.length (fun x hx => ?_)
      · rwa [e] at hd
      rw [List.append_assoc, List.getElem?_append_right (by simp)] at hx
      simp at hx; subst hx; exact ht
theorem Good.nth {A : List Ch} (h : Good A) : NthPos A := fun c hc ht => ((h.ok c hc).nt ht).2.2.1
theorem Good.rising {A : List Ch} (h : Good A) : Rising A := by
  have key : ∀ n i a b, A[i]? = some a → A[i + 1 + n]? = some b → a.rev.1 < b.rev.1 := by
    intro n
    induction n with
    | zero => intro i a b ha hb; exact (h.ln i a b ha hb).lt
    | succ n ih =>
      intro i a b ha hb
      have hlt : i + 1 + n < A.length := by have := (List.getElem?_eq_some_iff.1 hb).1; omega
      obtain ⟨x, hx⟩ : ∃ x, A[i + 1 + n]? = some x := ⟨_, List.getElem?_eq_getElem hlt⟩
      exact Nat.lt_trans (ih i a x ha hx) (h.ln _ x b hx (by rw [← hb]; congr 1)).lt
  unfold Rising
  rw [List.pairwise_iff_getElem]
  intro i j hi hj hij
  have := key (j - (i + 1)) i A[i] A[j] (List.getElem?_eq_getElem hi) (by rw [show i + 1 + (j - (i + 1)) = j by omega]; exact List.getElem?_eq_getElem hj)
  unfold above
  simp [this]
def NthLe (n : Nat) (A : List Ch) : Prop := ∀ c, c ∈ A → c.nth ≤ n
theorem made_good (l : List Nat) (hl : l.length ≤ 1000) : Good (all (madeL l).1) ∧ NthLe l.length (all (madeL l).1) := by
  rcases list_last l with rfl | ⟨Y, b, rfl⟩
  · exact ⟨Good.nil, fun c hc => by cases hc⟩
  · rw [List.length_append] at hl
    simp only [List.length_cons, List.length_nil] at hl
    obtain ⟨hg, hn⟩ := made_good Y (by omega)
    have hmi := mi_made Y
    have e : madeL (Y ++ [b]) = madeStep (madeL Y) b := by unfold madeL; rw [List.foldl_append]; rfl
    rw [e]
    generalize madeL Y = S at hg hn hmi
    obtain ⟨mm, hmm⟩ : ∃ mm, mm = S.2 + 1 + b / 4 % 3 := ⟨_, rfl⟩
    have hle : ∀ c, c ∈ all S.1 → c.rev.1 < mm := fun c hc => by have := hmi.le c hc; omega
    have hM : M64 = 18446744073709551616 := rfl
    unfold madeStep
    simp only [← hmm]
    by_cases q : b % 4 = 0 ∧ opn S.1 = true
    · rw [if_pos q, all_tombL hmi.wf q.2]
      refine ⟨hg.snoc (fun h0 => ?_) ⟨by show 0 < mm; omega, fun _ => ⟨rfl, rfl⟩, fun h => by cases h⟩ (fun a ha => ⟨fun _ => ?_, fun h => (by cases h), fun h => (by cases h), hle a (List.mem_of_getLast? ha)⟩), fun c hc => ?_⟩
      · rw [opn_all hmi.wf, h0] at q; cases q.2
      · have := q.2
        rw [opn_all hmi.wf] at this
        unfold opnA at this
        rw [ha] at this; simpa using this
      · rcases List.mem_append.1 hc with r | r
        · have := hn c r; simp; omega
        · rw [List.mem_singleton] at r; subst r; exact Nat.zero_le _
    · rw [if_neg q, all_putL hmi.wf]
      have hx := nextA_rev (all S.1) (mm, b / 16) mm 1
      have hcase : ((all S.1).getLast? = none ∨ ∃ a, (all S.1).getLast? = some a ∧ a.tomb = true) ∧ (nextA (all S.1) (mm, b / 16) mm 1).made = mm ∧ (nextA (all S.1) (mm, b / 16) mm 1).nth = 1 ∨
          ∃ a, (all S.1).getLast? = some a ∧ a.tomb = false ∧ (nextA (all S.1) (mm, b / 16) mm 1).made = a.made ∧ (nextA (all S.1) (mm, b / 16) mm 1).nth = (a.nth + 1) % M64 := by
        unfold nextA
        cases ha : (all S.1).getLast? with
        | none => exact .inl ⟨.inl rfl, rfl, rfl⟩
        | some a =>
          cases ht : a.tomb with
          | true => exact .inl ⟨.inr ⟨a, rfl, ht⟩, by simp [ht], by simp [ht]; rfl⟩
          | false => exact .inr ⟨a, rfl, ht, by simp [ht], by simp [ht]⟩
      generalize nextA (all S.1) (mm, b / 16) mm 1 = x at hx hcase
      have hx1 : x.rev.1 = mm := by rw [hx.1]
      have hxn : x.nth ≤ Y.length + 1 := by
        rcases hcase with ⟨_, _, h1⟩ | ⟨a, ha, _, _, h1⟩
        · omega
        · have := hn a (List.mem_of_getLast? ha)
          rw [h1]; exact Nat.le_trans (Nat.mod_le _ _) (by omega)
      refine ⟨hg.snoc (fun _ => hx.2) ⟨by omega, fun h => (by rw [hx.2] at h; cases h), fun _ => ?_⟩ (fun a ha => ⟨fun h => (by rw [hx.2] at h; cases h), fun _ ht => ?_, fun _ ht => ?_, by rw [hx1]; exact hle a (List.mem_of_getLast? ha)⟩), fun c hc => ?_⟩
      · rcases hcase with ⟨_, h1, h2⟩ | ⟨a, ha, hat, h1, h2⟩
        · rw [h1, h2, hx1]; refine ⟨by omega, Nat.le_refl _, by omega, by omega⟩
        · have hao := (hg.ok a (List.mem_of_getLast? ha)).nt hat
          have hal := hle a (List.mem_of_getLast? ha)
          have han := hn a (List.mem_of_getLast? ha)
          rw [h1, h2, hx1, Nat.mod_eq_of_lt (by omega)]
          refine ⟨hao.1, by omega, by omega, by omega⟩
      · rcases hcase with ⟨_, h1, _⟩ | ⟨a', ha', hat, _, _⟩
        · rw [h1]; exact hle a (List.mem_of_getLast? ha)
        · rw [ha] at ha'; cases ha'; rw [hat] at ht; cases ht
      · rcases hcase with ⟨h0 | ⟨a', ha', hat⟩, _, _⟩ | ⟨a', ha', hat, h1, h2⟩
        · rw [ha] at h0; cases h0
        · rw [ha] at ha'; cases ha'; rw [hat] at ht; cases ht
        · rw [ha] at ha'; cases ha'; exact ⟨h1, h2⟩
      · rcases List.mem_append.1 hc with r | r
        · have := hn c r; simp; omega
        · rw [List.mem_singleton] at r; subst r; simpa using hxn
termination_by l.length
decreasing_by simp_all
def backStep (A : List Ch) (L : List Gn) (c : Ch) : List Gn :=
  if c.tomb then tombP L c.rev else restP L c.rev c.made c.nth
theorem isK_own {A : List Ch} (hg : Good A) {i : Nat} {c : Ch} (hc : A[i]? = some c) : isK A c.rev.1 = if c.tomb then [] else [c] := by
  have hr := hg.rising
  have hi : i < A.length := (List.getElem?_eq_some_iff.1 hc).1
  have hp := List.pairwise_iff_getElem.1 hr
  have e : lst (atP c.rev.1) A = some c := by
    have hs : A = A.take (i + 1) ++ A.drop (i + 1) := (List.take_append_drop _ _).symm
    have h1 : (A.take (i + 1)).filter (atP c.rev.1) = A.take (i + 1) := filter_all fun x hx => by
      obtain ⟨j, hj⟩ := List.mem_iff_getElem?.1 hx
      rw [List.getElem?_take] at hj
      split at hj
      · rename_i hji
        rcases Nat.lt_or_ge j i with q | q
        · have hj2 := (List.getElem?_eq_some_iff.1 hj)
          have hc2 := (List.getElem?_eq_some_iff.1 hc)
          have := hp j i hj2.1 hi q
          rw [hj2.2, hc2.2] at this
          exact decide_eq_true (above_le this)
        · obtain rfl : j = i := by omega
          rw [hc] at hj; cases hj; exact decide_eq_true (Nat.le_refl _)
      · cases hj
    have h2 : (A.drop (i + 1)).filter (atP c.rev.1) = [] := filter_none fun x hx => by
      obtain ⟨j, hj⟩ := List.mem_iff_getElem?.1 hx
      rw [List.getElem?_drop] at hj
      refine decide_eq_false ?_
      have key : ∀ n x, A[i + 1 + n]? = some x → c.rev.1 < x.rev.1 := by
        intro n
        induction n with
        | zero => intro x hx; exact (hg.ln i c x hc hx).lt
        | succ n ih =>
          intro x hx
          have hlt : i + 1 + n < A.length := by have := (List.getElem?_eq_some_iff.1 hx).1; omega
          obtain ⟨y, hy⟩ : ∃ y, A[i + 1 + n]? = some y := ⟨_, List.getElem?_eq_getElem hlt⟩
          exact Nat.lt_trans (ih y hy) (hg.ln _ y x hy (by rw [← hx]; congr 1)).lt
      have := key j x hj
      omega
    unfold lst
    conv => lhs; arg 1; arg 2; rw [hs]
    rw [List.filter_append, h1, h2, List.append_nil, List.take_add_one, hc]
    simp
  unfold isK
  rw [e]
theorem fit_good {A : List Ch} (hg : Good A) {i : Nat} {c : Ch} (hc : A[i]? = some c) : fitA (A.take i) c.rev = true := by
  unfold fitA
  rw [decide_eq_true ((hg.ok c (List.mem_of_getElem? hc)).pos), Bool.true_and]
  cases q : (A.take i).getLast? with
  | none => rfl
  | some d =>
    cases i with
    | zero => simp at q
    | succ i =>
      have hi : i + 1 < A.length := (List.getElem?_eq_some_iff.1 hc).1
      rw [List.getLast?_eq_getElem?, List.length_take, Nat.min_eq_left (by omega), List.getElem?_take, if_pos (by omega), Nat.add_sub_cancel] at q
      have := (hg.ln i d c q hc).lt
      simp [above, this]
theorem last_take {A : List Ch} {i : Nat} {c : Ch} (hc : A[i]? = some c) : (i = 0 ∧ (A.take i).getLast? = none) ∨ ∃ a, (A.take i).getLast? = some a ∧ ∃ j, i = j + 1 ∧ A[j]? = some a := by
  have hi : i < A.length := (List.getElem?_eq_some_iff.1 hc).1
  cases i with
  | zero => exact .inl ⟨rfl, by simp⟩
  | succ i =>
    refine .inr ⟨A[i], ?_, i, rfl, List.getElem?_eq_getElem (by omega)⟩
    rw [List.getLast?_eq_getElem?, List.length_take, Nat.min_eq_left (by omega), List.getElem?_take, if_pos (by omega), Nat.add_sub_cancel]
    exact List.getElem?_eq_getElem (by omega)
theorem rest_all (L : List Gn) (hw : WF L) (r : Rv) (made nth : Nat) : restB L r made nth = restA (all L) r made nth := by
  unfold restB restA
  rw [fits_all]
  congr 1
  rcases wf_last hw with rfl | ⟨Y, g, rfl, ⟨he, ha⟩ | ⟨he, ps, r0, hp, ha⟩⟩
  · rfl
  · rw [ha]; simp [he]
  · rw [ha]; simp [he, hp, M64, Nat.add_assoc]
theorem back_step {A : List Ch} (hg : Good A) {i : Nat} {c : Ch} (hc : A[i]? = some c) {L : List Gn} (hw : WF L) (ha : all L = A.take i) :
    (c.tomb = true → tombE L c.rev = 0 ∧ tombP L c.rev = tombL L c.rev ∧ all (tombL L c.rev) = A.take (i + 1) ∧ WF (tombL L c.rev)) ∧
    (c.tomb = false → restE L c.rev c.made c.nth = 0 ∧ restP L c.rev c.made c.nth = putL L c.rev c.made c.nth ∧ all (putL L c.rev c.made c.nth) = A.take (i + 1) ∧ WF (putL L c.rev c.made c.nth)) := by
  have hf : fitA (all L) c.rev = true := by rw [ha]; exact fit_good hg hc
  have hok := hg.ok c (List.mem_of_getElem? hc)
  have htk : A.take (i + 1) = A.take i ++ [c] := by rw [List.take_add_one, hc]; rfl
  obtain ⟨cr, cm, cn, ct⟩ := c
  refine ⟨fun ht => ?_, fun ht => ?_⟩
  · simp only at ht; subst ht
    obtain ⟨e1, e2⟩ := hok.tb rfl
    simp only at e1 e2; subst e1; subst e2
    have ho : opn L = true := by
      rw [opn_all hw, ha]
      unfold opnA
      rcases last_take hc with ⟨rfl, _⟩ | ⟨a, e, j, rfl, hj⟩
      · exfalso
        cases A with
        | nil => simp at hc
        | cons d A => simp at hc; subst hc; exact absurd (hg.hd _ A rfl) (by simp)
      · rw [e]; have := (hg.ln j a _ hj hc).tb rfl; simp [this]
    have hfb : fitsB L cr = true := by rw [fits_all]; exact hf
    refine ⟨by unfold tombE; rw [if_pos hfb, if_pos ho], by unfold tombP; rw [hfb, ho]; rfl, by rw [all_tombL hw ho, ha, htk], wf_tomb hw _⟩
  · simp only at ht; subst ht
    obtain ⟨o1, o2, o3, o4⟩ := hok.nt rfl
    simp only at o1 o2 o3 o4
    have hb : restB L cr cm cn = true := by
      rw [rest_all L hw]
      unfold restA
      rw [hf, ha, decide_eq_false (show ¬ cm = 0 by omega), decide_eq_false (show ¬ cr.1 < cm by omega), decide_eq_false (show ¬ cn = 0 by omega)]
      rcases last_take hc with ⟨rfl, e⟩ | ⟨a, e, j, rfl, hj⟩
      · rw [e]; rfl
      · rw [e]
        have hl := hg.ln j a _ hj hc
        cases hat : a.tomb with
        | true => have := hl.nw rfl hat; simp at this; simp [hat, this]
        | false => have := hl.nx rfl hat; simp at this; simp [hat, this]
    refine ⟨by unfold restE; rw [if_pos hb], by unfold restP; rw [if_pos hb], ?_, wf_put hw _ _ _⟩
    rw [all_putL hw, ha, htk]
    congr 2
    unfold nextA
    rcases last_take hc with ⟨rfl, e⟩ | ⟨a, e, j, rfl, hj⟩
    · rw [e]; simp [Nat.mod_eq_of_lt o4]
    · rw [e]
      have hl := hg.ln j a _ hj hc
      cases hat : a.tomb with
      | true => simp [hat, Nat.mod_eq_of_lt o4]
      | false => have := hl.nx rfl hat; simp at this; simp [hat, this]
theorem empty_all {L : List Gn} (hw : WF L) : L.isEmpty = (all L).isEmpty := by
  rcases wf_last hw with rfl | ⟨Y, g, rfl, ⟨he, ha⟩ | ⟨he, ps, r0, hp, ha⟩⟩
  · rfl
  · rw [ha]; rw [show (Y ++ [g]).isEmpty = false by cases Y <;> rfl]; symm; rw [List.isEmpty_eq_false_iff]; simp
  · rw [ha]; rw [show (Y ++ [g]).isEmpty = false by cases Y <;> rfl]; symm; rw [List.isEmpty_eq_false_iff]; simp
end
end Go.Proofs.Ytlkngpckibidlaa.W

namespace Go.Proofs.Ytlkngpckibidlaa.W
open Go Go.AX
noncomputable section
set_option maxRecDepth 100000
theorem GensAt.nil (h : H) : GensAt h (.agg [.nilslice]) [] := ⟨.nilslice, [], rfl, rfl, ⟨.none, fun x hx => by cases hx⟩, fun _ => rfl, fun Y x e => by simp at e⟩
theorem GensP.nil (p : Nat → Prop) (h : H) : GensP p h (.agg [.nilslice]) [] := ⟨.nilslice, [], rfl, rfl, ⟨.none, fun x hx => by cases hx⟩, ⟨fun _ => rfl, fun Y x e => by simp at e⟩, ⟨(fun b q => by cases q), fun x hx => by cases hx⟩⟩
theorem GensP.val {p : Nat → Prop} {h : H} {v : AV} {L : List Gn} (hg : GensP p h v L) : ∃ s, v = .agg [s] ∧ s.one = true ∧ s.cells = [s] := by
  obtain ⟨s, X, rfl, -, hh, -⟩ := hg; exact ⟨s, rfl, SliceAt.one hh.1, SliceAt.cells hh.1⟩
theorem GensAt.val {h : H} {v : AV} {L : List Gn} (hg : GensAt h v L) : ∃ s, v = .agg [s] ∧ s.one = true ∧ s.cells = [s] := hg.p.val
theorem boxed (h1 : H) (s1 : AV) : ∃ h2, h2 = (h1.newCells 26 [.nilslice]).sts h1.nx 0 [s1] ∧ Only h1 h2 [] ∧ h2.nx = h1.nx + 1 ∧ cellAt h2 h1.nx 0 = some s1 ∧ wrAt h2 h1.nx = true := by
  refine ⟨_, rfl, ((Only.refl _ _).new _ _).sts (.inr (Nat.le_refl _)), by rw [nx_sts, nx_new], ?_, ?_⟩
  · simp only [B, F, Nat.reduceLT, Nat.reduceLeDiff, Nat.reduceEqDiff, Nat.reduceAdd, Nat.reduceMul, Nat.reduceSub, ↓reduceIte, eq_self]
  · simp only [B, F, Nat.reduceLT, Nat.reduceLeDiff, Nat.reduceEqDiff, Nat.reduceAdd, Nat.reduceMul, Nat.reduceSub, ↓reduceIte, eq_self]
theorem _root_.Go.AX.Only.t {h h' h'' : H} (a : Only h h' []) (b : Only h' h'' []) : Only h h'' [] := a.trans b (fun _ h => h) (fun _ h => by cases h)
theorem since_all (A : List Ch) : sinceL 0 A = A.map (·.rev) := by
  unfold sinceL; rw [filter_all (fun _ _ => by simp)]
theorem made_len (l : List Nat) : (all (madeL l).1).length ≤ l.length := by
  rcases list_last l with rfl | ⟨Y, b, rfl⟩
  · exact Nat.le_refl _
  · have ih := made_len Y
    have hmi := mi_made Y
    have e : madeL (Y ++ [b]) = madeStep (madeL Y) b := by unfold madeL; rw [List.foldl_append]; rfl
    rw [e, List.length_append]
    generalize madeL Y = S at ih hmi
    unfold madeStep
    simp only
    by_cases q : b % 4 = 0 ∧ opn S.1 = true
    · rw [if_pos q, all_tombL hmi.wf q.2]; simp; omega
    · rw [if_neg q, all_putL hmi.wf]; simp; omega
termination_by l.length
decreasing_by simp_all
theorem wf_some {L : List Gn} (h : WF L) : ∀ g, g ∈ L → gChs g ≠ [] := by
  have he : ∀ g : Gn, g.ended = true → gChs g ≠ [] := fun g q => by rw [gChs_ended q]; simp
  intro g hg
  rcases list_last L with rfl | ⟨Y, x, rfl⟩
  · cases hg
  · rcases List.mem_append.1 hg with q | q
    · exact he g (wf_init h g q)
    · rw [List.mem_singleton] at q; subst q
      cases qe : g.ended with
      | true => exact he g qe
      | false =>
        have := h.outer Y g rfl qe
        unfold gChs
        intro e
        rw [List.append_eq_nil_iff] at e
        have e2 := congrArg List.length e.1
        rw [putChs_len] at e2
        exact this (List.length_eq_zero_iff.1 e2)
theorem len_all {L : List Gn} (h : ∀ g, g ∈ L → gChs g ≠ []) : L.length ≤ (all L).length ∧ ∀ g, g ∈ L → g.puts.length ≤ (all L).length := by
  induction L with
  | nil => exact ⟨Nat.le_refl _, fun _ q => by cases q⟩
  | cons x L ih =>
    obtain ⟨i1, i2⟩ := ih (fun g hg => h g (List.mem_cons_of_mem _ hg))
    have e : all (x :: L) = gChs x ++ all L := by simp [all]
    have hx := h x (by simp)
    have h1 : 0 < (gChs x).length := List.length_pos_iff.2 hx
    have h2 : x.puts.length ≤ (gChs x).length := by unfold gChs; rw [List.length_append, putChs_len]; omega
    rw [e, List.length_append]
    refine ⟨by simp; omega, fun g hg => ?_⟩
    rcases List.mem_cons.1 hg with rfl | q
    · omega
    · have := i2 g q; omega
theorem wf_sz {L : List Gn} (h : WF L) : Sz (all L).length L := len_all (wf_some h)
theorem comp_len {A : List Ch} (hr : Rising A) (m : Nat) : (compA A m).length ≤ A.length := by rw [compA_filter m hr]; exact List.length_filter_le _ _
end
end Go.Proofs.Ytlkngpckibidlaa.W

namespace Go.Proofs.Ytlkngpckibidlaa.W
open Go Go.AX
noncomputable section
set_option maxRecDepth 100000
def rcC (c : Ch) : List AV := [.int .u64 (.ofNat c.rev.1), .int .u64 (.ofNat c.rev.2), .bool c.tomb, .int .u64 (.ofNat c.made), .int .u64 (.ofNat c.nth)]
def rcsC (A : List Ch) : List AV := A.flatMap rcC
theorem rcC_len (c : Ch) : (rcC c).length = 5 := rfl
theorem rcs_len (A : List Ch) : (rcsC A).length = A.length * 5 := flat_len rcC 5 rcC_len A
theorem rcs_one (A : List Ch) : allOne (rcsC A) = true := by
  rw [allOne_iff]
  intro v hv
  obtain ⟨c, -, h⟩ := List.mem_flatMap.1 hv
  simp only [rcC, List.mem_cons, List.mem_nil_iff, or_false] at h
  rcases h with rfl | rfl | rfl | rfl | rfl <;> rfl
theorem rcs_snoc (A : List Ch) (c : Ch) : rcsC A ++ rcC c = rcsC (A ++ [c]) := by simp [rcsC]
def RefAt (h : H) (v : AV) (A : List Ch) : Prop := ∃ s, v = .agg [s] ∧ SliceAt h s A.length (rcsC A) ∧ (A = [] → s = .nilslice)
theorem RefAt.keep {h h' : H} {v : AV} {A : List Ch} (hr : RefAt h v A) (ho : Only h h' []) : RefAt h' v A := by
  obtain ⟨s, rfl, hs, hn⟩ := hr; exact ⟨s, rfl, hs.only ho (fun _ _ => by simp), hn⟩
theorem RefAt.val {h : H} {v : AV} {A : List Ch} (hr : RefAt h v A) : ∃ s, v = .agg [s] ∧ s.one = true ∧ s.cells = [s] := by
  obtain ⟨s, rfl, hs, -⟩ := hr; exact ⟨s, rfl, SliceAt.one hs, SliceAt.cells hs⟩
theorem RefAt.nil (h : H) : RefAt h (.agg [.nilslice]) [] := ⟨.nilslice, rfl, .none, fun _ => rfl⟩
theorem rcC_at {h : H} {b o n : Nat} {cap : Cap} {A : List Ch} (hs : SliceAt h (.slice b o n cap) n (rcsC A)) {i : Nat} {x : Ch} (hx : A[i]? = some x) :
    cellAt h b (o + i * 5) = some (.int .u64 (.ofNat x.rev.1)) ∧ cellAt h b (o + (i * 5 + 1)) = some (.int .u64 (.ofNat x.rev.2)) ∧ cellAt h b (o + (i * 5 + 2)) = some (.bool x.tomb) ∧ cellAt h b (o + (i * 5 + 3)) = some (.int .u64 (.ofNat x.made)) ∧
    cellAt h b (o + (i * 5 + 4)) = some (.int .u64 (.ofNat x.nth)) := by
  have hc := fun j (hj : j < 5) => sl_cell rcC_len hs hx hj
  simp only [Nat.add_assoc] at hc
  exact ⟨hc 0 (by omega), hc 1 (by omega), hc 2 (by omega), hc 3 (by omega), hc 4 (by omega)⟩
theorem rAboveC (h : H) (a b : Rv) : PushC P (.enter 80 [rvA a, rvA b] h) (Says h (.bool (above a b))) := by
  obtain ⟨a1, a2⟩ := a
  obtain ⟨b1, b2⟩ := b
  unfold rvA rvC
  refine pushC_of_codeW (fn := Try.f80) (c := bodyC Try.f80) Try.func80 rfl ?_
  show codeW P 80 24 none _ _ _ _ _
  refine codeW_root ?_
  repeat' (first | ((with_reducible show codeW _ _ _ _ (codeI _ _) _ _ _ _); first | (apply st_seq; exact rfl) | (refine st_reg ?_ rfl rfl ?_; exact rfl; (conv => arg 4; whnf); (conv => arg 3; whnf)) | (refine st_cond ?_ rfl ?_; exact rfl; (conv => arg 1; arg 2; whnf)) | (refine st_block ?_ rfl ?_; exact rfl; (conv => arg 9; arg 1; whnf)) | (apply st_skip; exact rfl) | (refine st_exit ?_ rfl ?_; exact rfl; (conv in exitId _ => whnf)) | (apply st_ret; exact rfl)) | ((with_reducible refine retW_intro rfl ?_); (conv => arg 2; whnf)) | ((with_reducible first | refine iB (fun hb => ?_) (fun hb => ?_) | refine gWt (fun hb => ?_) (fun hb => ?_) | refine gWf (fun hb => ?_) (fun hb => ?_)) <;> (try simp only [hb])) | (simp only [B, F, Nat.reduceLT, Nat.reduceLeDiff, Nat.reduceEqDiff, Nat.reduceAdd, Nat.reduceMul, Nat.reduceSub, ↓reduceIte, eq_self]))
  all_goals refine ⟨?_, ((Only.refl _ _).new _ _).new _ _⟩
  all_goals simp [above, *]
theorem ref_last {h : H} {s : AV} {A : List Ch} (hs : SliceAt h s A.length (rcsC A)) (hA : A ≠ []) (hz : A.length ≤ 1000) : ∃ b o cap c, s = .slice b o A.length cap ∧ b < h.nx ∧ A.getLast? = some c ∧ A[A.length - 1]? = some c ∧
    wrapF .i64 (Int.ofNat A.length - Int.ofNat 1) = Int.ofNat (A.length - 1) ∧ (A.length - 1 < A.length) = True ∧ decide (0 < A.length) = true ∧ decide (A.length = 0) = false := by
  have hl : 0 < A.length := List.length_pos_iff.2 hA
  obtain ⟨b, o, cap, rfl, hb, -⟩ := hs.place hl
  have hx := List.getElem?_eq_getElem (l := A) (show A.length - 1 < A.length by omega)
  exact ⟨b, o, cap, _, rfl, hb, by rw [List.getLast?_eq_getElem?]; exact hx, hx, i64_sub (by omega) (by omega), by simp; omega, decide_eq_true hl, decide_eq_false (by omega)⟩
theorem rFitsC (h : H) (v : AV) (A : List Ch) (r : Rv) (hr : RefAt h v A) (hz : A.length ≤ 1000) : PushC P (.enter 70 [v, rvA r] h) (Says h (.bool (fitA A r))) := by
  obtain ⟨s, rfl, hs, -⟩ := hr
  have hso := SliceAt.one hs
  have hlen := hs.len (P := P) u50
  have e0 : rvA r = .agg [.int .u64 (.ofNat r.1), .int .u64 (.ofNat r.2)] := rfl
  rw [e0]
  refine pushC_of_codeW (fn := Try.f70) (c := bodyC Try.f70) Try.func70 rfl ?_
  show codeW P 70 27 none _ _ _ _ _
  refine codeW_root ?_
  by_cases hA : A = []
  · subst hA
    have d0 : decide (([] : List Ch).length = 0) = true := rfl
    cases q : decide (0 < r.1) with
    | true =>
      repeat' (first | ((with_reducible show codeW _ _ _ _ (codeI _ _) _ _ _ _); first | (apply st_seq; exact rfl) | (refine st_reg ?_ rfl rfl ?_; exact rfl; (conv => arg 4; whnf); (conv => arg 3; whnf)) | (refine st_dw ?_ rfl rfl ?_ ?_; exact rfl; kernel_rfl; (conv => arg 5; whnf); (conv => arg 3; whnf)) | (refine st_cond ?_ rfl ?_; exact rfl; (conv => arg 1; arg 2; whnf)) | (refine st_block ?_ rfl ?_; exact rfl; (conv => arg 9; arg 1; whnf)) | (apply st_skip; exact rfl) | (refine st_exit ?_ rfl ?_; exact rfl; (conv in exitId _ => whnf)) | (apply st_ret; exact rfl)) | ((with_reducible refine retW_intro rfl ?_); (conv => arg 2; whnf)) | ((with_reducible first | refine iB (fun hb => ?_) (fun hb => ?_) | refine gWt (fun hb => ?_) (fun hb => ?_) | refine gWf (fun hb => ?_) (fun hb => ?_) | refine gXt (fun hb => ?_) (fun hb => ?_) | refine gXf (fun hb => ?_) (fun hb => ?_)) <;> (try simp only [hb])) | ((with_reducible show drawI _ _ _ _ _ _ _ _ _); first | (apply kI_rd; exact rfl) | (apply kI_rg; exact rfl; exact rfl) | (apply kI_cv; exact rfl; kernel_rfl) | (apply kI_al; exact rfl; exact rfl) | (apply kI_ex; exact rfl; kernel_rfl; exact rfl) | (apply kI_eg; exact rfl; kernel_rfl; exact rfl) | (apply kI_nl)) | ((with_reducible show eOk _ _ _ _ _ _); first | (exact eok_nil) | (apply ke_rd; exact rfl) | (apply ke_rg; exact rfl; exact rfl) | (apply ke_cv; exact rfl; kernel_rfl) | (apply ke_al; exact rfl; exact rfl)) | ((with_reducible apply freshIs_new); kernel_rfl) | (simp only [B, xB, F, Nat.reduceLT, Nat.reduceLeDiff, Nat.reduceEqDiff, Nat.reduceAdd, Nat.reduceMul, Nat.reduceSub, ↓reduceIte, eq_self, hso, hlen, d0, q]))
      exact ⟨by unfold fitA; rw [q]; rfl, ((Only.refl _ _).new _ _).new _ _⟩
    | false =>
      repeat' (first | ((with_reducible show codeW _ _ _ _ (codeI _ _) _ _ _ _); first | (apply st_seq; exact rfl) | (refine st_reg ?_ rfl rfl ?_; exact rfl; (conv => arg 4; whnf); (conv => arg 3; whnf)) | (refine st_dw ?_ rfl rfl ?_ ?_; exact rfl; kernel_rfl; (conv => arg 5; whnf); (conv => arg 3; whnf)) | (refine st_cond ?_ rfl ?_; exact rfl; (conv => arg 1; arg 2; whnf)) | (refine st_block ?_ rfl ?_; exact rfl; (conv => arg 9; arg 1; whnf)) | (apply st_skip; exact rfl) | (refine st_exit ?_ rfl ?_; exact rfl; (conv in exitId _ => whnf)) | (apply st_ret; exact rfl)) | ((with_reducible refine retW_intro rfl ?_); (conv => arg 2; whnf)) | ((with_reducible first | refine iB (fun hb => ?_) (fun hb => ?_) | refine gWt (fun hb => ?_) (fun hb => ?_) | refine gWf (fun hb => ?_) (fun hb => ?_) | refine gXt (fun hb => ?_) (fun hb => ?_) | refine gXf (fun hb => ?_) (fun hb => ?_)) <;> (try simp only [hb])) | ((with_reducible show drawI _ _ _ _ _ _ _ _ _); first | (apply kI_rd; exact rfl) | (apply kI_rg; exact rfl; exact rfl) | (apply kI_cv; exact rfl; kernel_rfl) | (apply kI_al; exact rfl; exact rfl) | (apply kI_ex; exact rfl; kernel_rfl; exact rfl) | (apply kI_eg; exact rfl; kernel_rfl; exact rfl) | (apply kI_nl)) | ((with_reducible show eOk _ _ _ _ _ _); first | (exact eok_nil) | (apply ke_rd; exact rfl) | (apply ke_rg; exact rfl; exact rfl) | (apply ke_cv; exact rfl; kernel_rfl) | (apply ke_al; exact rfl; exact rfl)) | ((with_reducible apply freshIs_new); kernel_rfl) | (simp only [B, xB, F, Nat.reduceLT, Nat.reduceLeDiff, Nat.reduceEqDiff, Nat.reduceAdd, Nat.reduceMul, Nat.reduceSub, ↓reduceIte, eq_self, hso, hlen, d0, q]))
      exact ⟨by unfold fitA; rw [q]; rfl, ((Only.refl _ _).new _ _).new _ _⟩
  · obtain ⟨b, o, cap, c, rfl, hb, hl, hx, e1, lt1, dp, d0⟩ := ref_last hs hA hz
    obtain ⟨p0, p1, -⟩ := rcC_at hs hx
    have n1 : (b = h.nx) = False := by simp; omega
    have n2 : (b = h.nx + 1) = False := by simp; omega
    cases q : decide (0 < r.1) with
    | false =>
      repeat' (first | ((with_reducible show codeW _ _ _ _ (codeI _ _) _ _ _ _); first | (apply st_seq; exact rfl) | (refine st_reg ?_ rfl rfl ?_; exact rfl; (conv => arg 4; whnf); (conv => arg 3; whnf)) | (refine st_dw ?_ rfl rfl ?_ ?_; exact rfl; kernel_rfl; (conv => arg 5; whnf); (conv => arg 3; whnf)) | (refine st_cond ?_ rfl ?_; exact rfl; (conv => arg 1; arg 2; whnf)) | (refine st_block ?_ rfl ?_; exact rfl; (conv => arg 9; arg 1; whnf)) | (apply st_skip; exact rfl) | (refine st_exit ?_ rfl ?_; exact rfl; (conv in exitId _ => whnf)) | (apply st_ret; exact rfl)) | ((with_reducible refine retW_intro rfl ?_); (conv => arg 2; whnf)) | ((with_reducible first | refine iB (fun hb => ?_) (fun hb => ?_) | refine gWt (fun hb => ?_) (fun hb => ?_) | refine gWf (fun hb => ?_) (fun hb => ?_) | refine gXt (fun hb => ?_) (fun hb => ?_) | refine gXf (fun hb => ?_) (fun hb => ?_)) <;> (try simp only [hb])) | ((with_reducible show drawI _ _ _ _ _ _ _ _ _); first | (apply kI_rd; exact rfl) | (apply kI_rg; exact rfl; exact rfl) | (apply kI_cv; exact rfl; kernel_rfl) | (apply kI_al; exact rfl; exact rfl) | (apply kI_ex; exact rfl; kernel_rfl; exact rfl) | (apply kI_eg; exact rfl; kernel_rfl; exact rfl) | (apply kI_nl)) | ((with_reducible show eOk _ _ _ _ _ _); first | (exact eok_nil) | (apply ke_rd; exact rfl) | (apply ke_rg; exact rfl; exact rfl) | (apply ke_cv; exact rfl; kernel_rfl) | (apply ke_al; exact rfl; exact rfl)) | ((with_reducible apply freshIs_new); kernel_rfl) | (simp only [B, xB, F, Nat.reduceLT, Nat.reduceLeDiff, Nat.reduceEqDiff, Nat.reduceAdd, Nat.reduceMul, Nat.reduceSub, ↓reduceIte, eq_self, hso, hlen, d0, q]))
      exact ⟨by unfold fitA; rw [q]; rfl, ((Only.refl _ _).new _ _).new _ _⟩
    | true =>
      obtain ⟨h1, h1e⟩ : ∃ h1, h1 = (h.newCells 52 [.slice b o A.length cap]).newCells 35 [.int .u64 (.ofNat r.1), .int .u64 (.ofNat r.2)] := ⟨_, rfl⟩
      have o1 : Only h h1 [] := by rw [h1e]; exact ((Only.refl _ _).new _ _).new _ _
      have k0 : cellAt h1 h.nx 0 = some (.slice b o A.length cap) := by rw [h1e]; simp only [B, xB, F, Nat.reduceLT, Nat.reduceLeDiff, Nat.reduceEqDiff, Nat.reduceAdd, Nat.reduceMul, Nat.reduceSub, ↓reduceIte, eq_self]
      have k1 : cellAt h1 (h.nx + 1) 0 = some (.int .u64 (.ofNat r.1)) := by rw [h1e]; simp only [B, xB, F, Nat.reduceLT, Nat.reduceLeDiff, Nat.reduceEqDiff, Nat.reduceAdd, Nat.reduceMul, Nat.reduceSub, ↓reduceIte, eq_self]
      have k2 : cellAt h1 (h.nx + 1) 1 = some (.int .u64 (.ofNat r.2)) := by rw [h1e]; simp only [B, xB, F, Nat.reduceLT, Nat.reduceLeDiff, Nat.reduceEqDiff, Nat.reduceAdd, Nat.reduceMul, Nat.reduceSub, ↓reduceIte, eq_self]
      have x1 : h1.nx = h.nx + 2 := by rw [h1e]; rfl
      first | replace p0 := kcell p0 o1 (by omega) (by simp) | replace p0 := kwr p0 o1 (by omega) (by simp)
      first | replace p1 := kcell p1 o1 (by omega) (by simp) | replace p1 := kwr p1 o1 (by omega) (by simp)
      repeat' (first | ((with_reducible show codeW _ _ _ _ (codeI _ _) _ _ _ _); first | (apply st_seq; exact rfl) | (refine st_reg ?_ rfl rfl ?_; exact rfl; (conv => arg 4; whnf); (conv => arg 3; whnf)) | (refine st_dw ?_ rfl rfl ?_ ?_; exact rfl; kernel_rfl; (conv => arg 5; whnf); (conv => arg 3; whnf)) | (refine st_cond ?_ rfl ?_; exact rfl; (conv => arg 1; arg 2; whnf)) | (refine st_block ?_ rfl ?_; exact rfl; (conv => arg 9; arg 1; whnf)) | (apply st_skip; exact rfl) | (refine st_exit ?_ rfl ?_; exact rfl; (conv in exitId _ => whnf)) | (apply st_ret; exact rfl)) | ((with_reducible refine retW_intro rfl ?_); (conv => arg 2; whnf)) | ((with_reducible first | refine iB (fun hb => ?_) (fun hb => ?_) | refine gWt (fun hb => ?_) (fun hb => ?_) | refine gWf (fun hb => ?_) (fun hb => ?_) | refine gXt (fun hb => ?_) (fun hb => ?_) | refine gXf (fun hb => ?_) (fun hb => ?_)) <;> (try simp only [hb])) | ((with_reducible show drawI _ _ _ _ _ _ _ _ _); first | (apply kI_rd; exact rfl) | (apply kI_rg; exact rfl; exact rfl) | (apply kI_cv; exact rfl; kernel_rfl) | (apply kI_al; exact rfl; exact rfl) | (apply kI_ex; exact rfl; kernel_rfl; exact rfl) | (apply kI_eg; exact rfl; kernel_rfl; exact rfl) | (apply kI_nl)) | ((with_reducible show eOk _ _ _ _ _ _); first | (exact eok_nil) | (apply ke_rd; exact rfl) | (apply ke_rg; exact rfl; exact rfl) | (apply ke_cv; exact rfl; kernel_rfl) | (apply ke_al; exact rfl; exact rfl)) | ((with_reducible apply freshIs_new); kernel_rfl) | (simp only [B, xB, F, Nat.reduceLT, Nat.reduceLeDiff, Nat.reduceEqDiff, Nat.reduceAdd, Nat.reduceMul, Nat.reduceSub, ↓reduceIte, eq_self, hso, hlen, d0, q, e1, lt1, ← h1e, k0, k1, k2, p0, p1]))
      refine ((rAboveC h1 r c.rev).call P).mono P ?_
      rintro v h2 ⟨rfl, o2⟩
      have xo2 := o2.1
      first | replace k0 := kcell k0 o2 (by omega) (by simp) | replace k0 := kwr k0 o2 (by omega) (by simp)
      first | replace k1 := kcell k1 o2 (by omega) (by simp) | replace k1 := kwr k1 o2 (by omega) (by simp)
      first | replace k2 := kcell k2 o2 (by omega) (by simp) | replace k2 := kwr k2 o2 (by omega) (by simp)
      first | replace p0 := kcell p0 o2 (by omega) (by simp) | replace p0 := kwr p0 o2 (by omega) (by simp)
      first | replace p1 := kcell p1 o2 (by omega) (by simp) | replace p1 := kwr p1 o2 (by omega) (by simp)
      repeat' (first | ((with_reducible show codeW _ _ _ _ (codeI _ _) _ _ _ _); first | (apply st_seq; exact rfl) | (refine st_reg ?_ rfl rfl ?_; exact rfl; (conv => arg 4; whnf); (conv => arg 3; whnf)) | (refine st_dw ?_ rfl rfl ?_ ?_; exact rfl; kernel_rfl; (conv => arg 5; whnf); (conv => arg 3; whnf)) | (refine st_cond ?_ rfl ?_; exact rfl; (conv => arg 1; arg 2; whnf)) | (refine st_block ?_ rfl ?_; exact rfl; (conv => arg 9; arg 1; whnf)) | (apply st_skip; exact rfl) | (refine st_exit ?_ rfl ?_; exact rfl; (conv in exitId _ => whnf)) | (apply st_ret; exact rfl)) | ((with_reducible refine retW_intro rfl ?_); (conv => arg 2; whnf)) | ((with_reducible first | refine iB (fun hb => ?_) (fun hb => ?_) | refine gWt (fun hb => ?_) (fun hb => ?_) | refine gWf (fun hb => ?_) (fun hb => ?_) | refine gXt (fun hb => ?_) (fun hb => ?_) | refine gXf (fun hb => ?_) (fun hb => ?_)) <;> (try simp only [hb])) | ((with_reducible show drawI _ _ _ _ _ _ _ _ _); first | (apply kI_rd; exact rfl) | (apply kI_rg; exact rfl; exact rfl) | (apply kI_cv; exact rfl; kernel_rfl) | (apply kI_al; exact rfl; exact rfl) | (apply kI_ex; exact rfl; kernel_rfl; exact rfl) | (apply kI_eg; exact rfl; kernel_rfl; exact rfl) | (apply kI_nl)) | ((with_reducible show eOk _ _ _ _ _ _); first | (exact eok_nil) | (apply ke_rd; exact rfl) | (apply ke_rg; exact rfl; exact rfl) | (apply ke_cv; exact rfl; kernel_rfl) | (apply ke_al; exact rfl; exact rfl)) | ((with_reducible apply freshIs_new); kernel_rfl) | (simp only [B, xB, F, Nat.reduceLT, Nat.reduceLeDiff, Nat.reduceEqDiff, Nat.reduceAdd, Nat.reduceMul, Nat.reduceSub, ↓reduceIte, eq_self, hso, hlen, d0, q, e1, lt1, k0, k1, k2, p0, p1]))
      exact ⟨by unfold fitA; rw [q, hl]; rfl, o1.t o2⟩
theorem rOpenC (h : H) (v : AV) (A : List Ch) (hr : RefAt h v A) (hz : A.length ≤ 1000) : PushC P (.enter 71 [v] h) (Says h (.bool (opnA A))) := by
  obtain ⟨s, rfl, hs, -⟩ := hr
  have hso := SliceAt.one hs
  have hlen := hs.len (P := P) u50
  refine pushC_of_codeW (fn := Try.f71) (c := bodyC Try.f71) Try.func71 rfl ?_
  show codeW P 71 19 none _ _ _ _ _
  refine codeW_root ?_
  by_cases hA : A = []
  · subst hA
    have d0 : decide (0 < ([] : List Ch).length) = false := rfl
    repeat' (first | ((with_reducible show codeW _ _ _ _ (codeI _ _) _ _ _ _); first | (apply st_seq; exact rfl) | (refine st_reg ?_ rfl rfl ?_; exact rfl; (conv => arg 4; whnf); (conv => arg 3; whnf)) | (refine st_cond ?_ rfl ?_; exact rfl; (conv => arg 1; arg 2; whnf)) | (refine st_block ?_ rfl ?_; exact rfl; (conv => arg 9; arg 1; whnf)) | (apply st_skip; exact rfl) | (refine st_exit ?_ rfl ?_; exact rfl; (conv in exitId _ => whnf)) | (apply st_ret; exact rfl)) | ((with_reducible refine retW_intro rfl ?_); (conv => arg 2; whnf)) | ((with_reducible first | refine iB (fun hb => ?_) (fun hb => ?_) | refine gWt (fun hb => ?_) (fun hb => ?_) | refine gWf (fun hb => ?_) (fun hb => ?_)) <;> (try simp only [hb])) | (simp only [B, F, Nat.reduceLT, Nat.reduceLeDiff, Nat.reduceEqDiff, Nat.reduceAdd, Nat.reduceMul, Nat.reduceSub, ↓reduceIte, eq_self, hso, hlen, d0]))
    exact ⟨rfl, (Only.refl _ _).new _ _⟩
  · obtain ⟨b, o, cap, c, rfl, hb, hl, hx, e1, lt1, dp, d0⟩ := ref_last hs hA hz
    obtain ⟨-, -, p2, -⟩ := rcC_at hs hx
    have n1 : (b = h.nx) = False := by simp; omega
    repeat' (first | ((with_reducible show codeW _ _ _ _ (codeI _ _) _ _ _ _); first | (apply st_seq; exact rfl) | (refine st_reg ?_ rfl rfl ?_; exact rfl; (conv => arg 4; whnf); (conv => arg 3; whnf)) | (refine st_cond ?_ rfl ?_; exact rfl; (conv => arg 1; arg 2; whnf)) | (refine st_block ?_ rfl ?_; exact rfl; (conv => arg 9; arg 1; whnf)) | (apply st_skip; exact rfl) | (refine st_exit ?_ rfl ?_; exact rfl; (conv in exitId _ => whnf)) | (apply st_ret; exact rfl)) | ((with_reducible refine retW_intro rfl ?_); (conv => arg 2; whnf)) | ((with_reducible first | refine iB (fun hb => ?_) (fun hb => ?_) | refine gWt (fun hb => ?_) (fun hb => ?_) | refine gWf (fun hb => ?_) (fun hb => ?_)) <;> (try simp only [hb])) | (simp only [B, F, Nat.reduceLT, Nat.reduceLeDiff, Nat.reduceEqDiff, Nat.reduceAdd, Nat.reduceMul, Nat.reduceSub, ↓reduceIte, eq_self, hso, hlen, dp, e1, lt1, n1, p2]))
    exact ⟨by unfold opnA; rw [hl], (Only.refl _ _).new _ _⟩
end
end Go.Proofs.Ytlkngpckibidlaa.W

namespace Go.Proofs.Ytlkngpckibidlaa.W
open Go Go.AX
noncomputable section
set_option maxRecDepth 100000
def PostRef (h : H) (A : List Ch) (v : AV) (h' : H) : Prop := Only h h' [] ∧ RefAt h' v A ∧ ∀ y, v = .agg [y] → ∀ b, blkOf y = some b → h.nx + 3 ≤ b
theorem ap50nil (h : H) : builtinA P .append [50, 50] [.nilslice, .nilslice] h = .val .nilslice h := by
  have hi : infoOk P 125 5 = true := by kernel_rfl
  unfold infoOk at hi
  split at hi
  · rename_i info hinfo
    rw [Bool.and_eq_true] at hi
    rw [bi_append_nil u50 u50 (fun k h => by cases h) hinfo hi.1]
    unfold appendN
    rw [Nat.zero_mul]; rfl
  · cases hi
theorem rWithC (h : H) (v : AV) (A : List Ch) (c : Ch) (hr : RefAt h v A) (hz : A.length ≤ 1000) : PushC P (.enter 72 [v, .agg (rcC c)] h) (PostRef h (A ++ [c])) := by
  obtain ⟨s, rfl, hs, hn⟩ := hr
  have hso := SliceAt.one hs
  unfold rcC
  obtain ⟨h1, h1e⟩ : ∃ h1, h1 = ((h.newCells 52 [s]).newCells 125 [.int .u64 (.ofNat c.rev.1), .int .u64 (.ofNat c.rev.2), .bool c.tomb, .int .u64 (.ofNat c.made), .int .u64 (.ofNat c.nth)]).newCells 52 [.nilslice] := ⟨_, rfl⟩
  have o1 : Only h h1 [] := by rw [h1e]; exact (((Only.refl _ _).new _ _).new _ _).new _ _
  have x1 : h1.nx = h.nx + 3 := by rw [h1e]; rfl
  have k0 : cellAt h1 h.nx 0 = some s := by rw [h1e]; simp only [B, xB, F, Nat.reduceLT, Nat.reduceLeDiff, Nat.reduceEqDiff, Nat.reduceAdd, Nat.reduceMul, Nat.reduceSub, ↓reduceIte, eq_self]
  have j0 : cellAt h1 (h.nx + 1) 0 = some (.int .u64 (.ofNat c.rev.1)) := by rw [h1e]; simp only [B, xB, F, Nat.reduceLT, Nat.reduceLeDiff, Nat.reduceEqDiff, Nat.reduceAdd, Nat.reduceMul, Nat.reduceSub, ↓reduceIte, eq_self]
  have j1 : cellAt h1 (h.nx + 1) 1 = some (.int .u64 (.ofNat c.rev.2)) := by rw [h1e]; simp only [B, xB, F, Nat.reduceLT, Nat.reduceLeDiff, Nat.reduceEqDiff, Nat.reduceAdd, Nat.reduceMul, Nat.reduceSub, ↓reduceIte, eq_self]
  have j2 : cellAt h1 (h.nx + 1) 2 = some (.bool c.tomb) := by rw [h1e]; simp only [B, xB, F, Nat.reduceLT, Nat.reduceLeDiff, Nat.reduceEqDiff, Nat.reduceAdd, Nat.reduceMul, Nat.reduceSub, ↓reduceIte, eq_self]
  have j3 : cellAt h1 (h.nx + 1) 3 = some (.int .u64 (.ofNat c.made)) := by rw [h1e]; simp only [B, xB, F, Nat.reduceLT, Nat.reduceLeDiff, Nat.reduceEqDiff, Nat.reduceAdd, Nat.reduceMul, Nat.reduceSub, ↓reduceIte, eq_self]
  have j4 : cellAt h1 (h.nx + 1) 4 = some (.int .u64 (.ofNat c.nth)) := by rw [h1e]; simp only [B, xB, F, Nat.reduceLT, Nat.reduceLeDiff, Nat.reduceEqDiff, Nat.reduceAdd, Nat.reduceMul, Nat.reduceSub, ↓reduceIte, eq_self]
  have t0 : cellAt h1 (h.nx + 2) 0 = some .nilslice := by rw [h1e]; simp only [B, xB, F, Nat.reduceLT, Nat.reduceLeDiff, Nat.reduceEqDiff, Nat.reduceAdd, Nat.reduceMul, Nat.reduceSub, ↓reduceIte, eq_self]
  have tw : wrAt h1 (h.nx + 2) = true := by rw [h1e]; simp only [B, xB, F, Nat.reduceLT, Nat.reduceLeDiff, Nat.reduceEqDiff, Nat.reduceAdd, Nat.reduceMul, Nat.reduceSub, ↓reduceIte, eq_self]
  -- behind the first append
  have main : ∀ (v1 : AV) (h2 : H), Only h1 h2 [] → Grows 5 h1.nx h2 v1 A.length (rcsC A) → ∀ tm ds, ds = [] → tm.get 2 = some (.ptr h.nx 0) → tm.get 3 = some (.ptr (h.nx + 1) 0) → tm.get 4 = some (.ptr (h.nx + 2) 0) → tm.get 5 = some v1 →
      codeW P 72 15 none (codeI (bodyC Try.f72) [0, 1, 1, 1]) ds tm h2 (seqK (codeK P 72 15 none (codeI (bodyC Try.f72) [1, 1, 1, 1]) (retK P Try.f72 (PostRef h (A ++ [c])))) (retK P Try.f72 (PostRef h (A ++ [c])))) := by
    intro v1 h2 o2 gr tm ds hds t2 t3 t4 t5
    subst hds
    have xo2 := o2.1
    first | replace j0 := kcell j0 o2 (by omega) (by simp) | replace j0 := kwr j0 o2 (by omega) (by simp)
    first | replace j1 := kcell j1 o2 (by omega) (by simp) | replace j1 := kwr j1 o2 (by omega) (by simp)
    first | replace j2 := kcell j2 o2 (by omega) (by simp) | replace j2 := kwr j2 o2 (by omega) (by simp)
    first | replace j3 := kcell j3 o2 (by omega) (by simp) | replace j3 := kwr j3 o2 (by omega) (by simp)
    first | replace j4 := kcell j4 o2 (by omega) (by simp) | replace j4 := kwr j4 o2 (by omega) (by simp)
    first | replace t0 := kcell t0 o2 (by omega) (by simp) | replace t0 := kwr t0 o2 (by omega) (by simp)
    first | replace tw := kcell tw o2 (by omega) (by simp) | replace tw := kwr tw o2 (by omega) (by simp)
    have go1 := gr.one
    have hne : (h.nx + 2 = h2.nx) = False := by simp; omega
    obtain ⟨h3, h3e⟩ : ∃ h3, h3 = h2.newCells 125 (rcC c) := ⟨_, rfl⟩
    have o3 : Only h2 h3 [] := by rw [h3e]; exact (Only.refl _ _).new _ _
    have x3 : h3.nx = h2.nx + 1 := by rw [h3e]; rfl
    have gr3 : Grows 5 h1.nx h3 v1 A.length (rcsC A) := gr.of_get o3.1 (fun b hb => by rw [h3e, get_new _ _ _ (by have := (gr.base hb).2; omega)])
    unfold rcC at h3e
    have i0 : cellAt h3 h2.nx 0 = some (.int .u64 (.ofNat c.rev.1)) := by rw [h3e]; simp only [B, F, Nat.reduceLT, Nat.reduceLeDiff, Nat.reduceEqDiff, Nat.reduceAdd, Nat.reduceMul, Nat.reduceSub, ↓reduceIte, eq_self]
    have i1 : cellAt h3 h2.nx 1 = some (.int .u64 (.ofNat c.rev.2)) := by rw [h3e]; simp only [B, F, Nat.reduceLT, Nat.reduceLeDiff, Nat.reduceEqDiff, Nat.reduceAdd, Nat.reduceMul, Nat.reduceSub, ↓reduceIte, eq_self]
    have i2 : cellAt h3 h2.nx 2 = some (.bool c.tomb) := by rw [h3e]; simp only [B, F, Nat.reduceLT, Nat.reduceLeDiff, Nat.reduceEqDiff, Nat.reduceAdd, Nat.reduceMul, Nat.reduceSub, ↓reduceIte, eq_self]
    have i3 : cellAt h3 h2.nx 3 = some (.int .u64 (.ofNat c.made)) := by rw [h3e]; simp only [B, F, Nat.reduceLT, Nat.reduceLeDiff, Nat.reduceEqDiff, Nat.reduceAdd, Nat.reduceMul, Nat.reduceSub, ↓reduceIte, eq_self]
    have i4 : cellAt h3 h2.nx 4 = some (.int .u64 (.ofNat c.nth)) := by rw [h3e]; simp only [B, F, Nat.reduceLT, Nat.reduceLeDiff, Nat.reduceEqDiff, Nat.reduceAdd, Nat.reduceMul, Nat.reduceSub, ↓reduceIte, eq_self]
    have xo3 := o3.1
    first | replace t0 := kcell t0 o3 (by omega) (by simp) | replace t0 := kwr t0 o3 (by omega) (by simp)
    first | replace tw := kcell tw o3 (by omega) (by simp) | replace tw := kwr tw o3 (by omega) (by simp)
    repeat' (first | ((with_reducible show codeW _ _ _ _ (codeI _ _) _ _ _ _); first | (apply st_seq; exact rfl) | (refine st_reg ?_ rfl rfl ?_; exact rfl; (conv => arg 4; whnf); (conv => arg 3; whnf)) | (refine st_cond ?_ rfl ?_; exact rfl; (conv => arg 1; arg 2; whnf)) | (refine st_block ?_ rfl ?_; exact rfl; (conv => arg 9; arg 1; whnf)) | (apply st_skip; exact rfl) | (refine st_exit ?_ rfl ?_; exact rfl; (conv in exitId _ => whnf)) | (apply st_ret; exact rfl)) | ((with_reducible refine retW_intro rfl ?_); (conv => arg 2; whnf)) | ((with_reducible first | refine iB (fun hb => ?_) (fun hb => ?_) | refine gWt (fun hb => ?_) (fun hb => ?_) | refine gWf (fun hb => ?_) (fun hb => ?_)) <;> (try simp only [hb])) | (simp only [B, F, Nat.reduceLT, Nat.reduceLeDiff, Nat.reduceEqDiff, Nat.reduceAdd, Nat.reduceMul, Nat.reduceSub, ↓reduceIte, eq_self, t2, t3, t4, t5, j0, j1, j2, j3, j4, ← h3e, go1, i0, i1, i2, i3, i4]))
    refine exW_grows (m := 1) (new := rcC c) gr3 (by omega) (by omega) (by omega) rfl (by omega) (fun v' h4 gr4 x4 old4 blk4 => ?_)
    have o4 : Only h h4 [] := ⟨by have := o1.1; omega, fun b hb _ => by
      rw [old4 b (by omega) (fun q => by have := (gr3.base q).1; omega)]; exact ((o1.t o2).t o3).2 b hb (by simp)⟩
    have t04 := (cellAt_of_get (old4 (h.nx + 2) (by omega) (fun q => by have := (gr3.base q).1; omega)) 0).trans t0
    have tw4 := (wrAt_of_get (old4 (h.nx + 2) (by omega) (fun q => by have := (gr3.base q).1; omega))).trans tw
    have go4 := gr4.one
    have gc4 := gr4.cells
    rw [rcs_snoc] at gr4
    have hb4 : ∀ b, blkOf v' = some b → b ∉ [h.nx + 2] := fun b hb => by rw [blk4] at hb; cases hb; simp; omega
    have hs4 : SliceAt h4 v' (A ++ [c]).length (rcsC (A ++ [c])) := by rw [List.length_append]; exact gr4.slice
    repeat' (first | ((with_reducible show codeW _ _ _ _ (codeI _ _) _ _ _ _); first | (apply st_seq; exact rfl) | (refine st_reg ?_ rfl rfl ?_; exact rfl; (conv => arg 4; whnf); (conv => arg 3; whnf)) | (refine st_cond ?_ rfl ?_; exact rfl; (conv => arg 1; arg 2; whnf)) | (refine st_block ?_ rfl ?_; exact rfl; (conv => arg 9; arg 1; whnf)) | (apply st_skip; exact rfl) | (refine st_exit ?_ rfl ?_; exact rfl; (conv in exitId _ => whnf)) | (apply st_ret; exact rfl)) | ((with_reducible refine retW_intro rfl ?_); (conv => arg 2; whnf)) | ((with_reducible first | refine iB (fun hb => ?_) (fun hb => ?_) | refine gWt (fun hb => ?_) (fun hb => ?_) | refine gWf (fun hb => ?_) (fun hb => ?_)) <;> (try simp only [hb])) | (simp only [B, F, Nat.reduceLT, Nat.reduceLeDiff, Nat.reduceEqDiff, Nat.reduceAdd, Nat.reduceMul, Nat.reduceSub, ↓reduceIte, eq_self, t4, put_sts, tw4, t04, go4, gc4, cellAt_sts tw4]))
    exact ⟨o4.sts (.inr (by omega)), ⟨v', rfl, hs4.only (S := [h.nx + 2]) ((Only.refl _ _).sts (.inl (by simp))) hb4, fun e => by simp at e⟩, fun y e b q => by cases e; rw [blk4] at q; cases q; omega⟩
  refine pushC_of_codeW (fn := Try.f72) (c := bodyC Try.f72) Try.func72 rfl ?_
  show codeW P 72 15 none _ _ _ _ _
  refine codeW_root ?_
  by_cases hA : A = []
  · subst hA
    obtain rfl := hn rfl
    have g0 : Grows 5 h1.nx h1 .nilslice ([] : List Ch).length (rcsC []) := Grows.none
    have o0 := Only.refl h1 []
    simp only [List.nil_append] at main
    repeat' (first | (with_reducible refine main .nilslice h1 o0 g0 _ _ rfl ?_ ?_ ?_ ?_) | ((with_reducible show codeW _ _ _ _ (codeI _ _) _ _ _ _); first | (apply st_seq; exact rfl) | (refine st_reg ?_ rfl rfl ?_; exact rfl; (conv => arg 4; whnf); (conv => arg 3; whnf)) | (refine st_cond ?_ rfl ?_; exact rfl; (conv => arg 1; arg 2; whnf)) | (refine st_block ?_ rfl ?_; exact rfl; (conv => arg 9; arg 1; whnf)) | (apply st_skip; exact rfl) | (refine st_exit ?_ rfl ?_; exact rfl; (conv in exitId _ => whnf)) | (apply st_ret; exact rfl)) | ((with_reducible refine retW_intro rfl ?_); (conv => arg 2; whnf)) | ((with_reducible first | refine iB (fun hb => ?_) (fun hb => ?_) | refine gWt (fun hb => ?_) (fun hb => ?_) | refine gWf (fun hb => ?_) (fun hb => ?_)) <;> (try simp only [hb])) | (simp only [B, F, Nat.reduceLT, Nat.reduceLeDiff, Nat.reduceEqDiff, Nat.reduceAdd, Nat.reduceMul, Nat.reduceSub, ↓reduceIte, eq_self, hso, ← h1e, k0, ap50nil]))
  · obtain ⟨b, o, cap, -, rfl, hb, -⟩ := ref_last hs hA hz
    have hrow : h1.row b o (A.length * 5) = some (rcsC A) := by
      rw [← rcs_len]
      refine row_ok (fun i hi => ?_) (fun e => hA (by rw [← List.length_eq_zero_iff]; have := rcs_len A; rw [e] at this; simp at this; omega))
      have := hs.only o1 (fun _ _ => by simp)
      cases this with
      | cell _ _ _ _ _ _ hc => exact hc i hi
    have hl : 0 < A.length := List.length_pos_iff.2 hA
    repeat' (first | ((with_reducible show codeW _ _ _ _ (codeI _ _) _ _ _ _); first | (apply st_seq; exact rfl) | (refine st_reg ?_ rfl rfl ?_; exact rfl; (conv => arg 4; whnf); (conv => arg 3; whnf)) | (refine st_cond ?_ rfl ?_; exact rfl; (conv => arg 1; arg 2; whnf)) | (refine st_block ?_ rfl ?_; exact rfl; (conv => arg 9; arg 1; whnf)) | (apply st_skip; exact rfl) | (refine st_exit ?_ rfl ?_; exact rfl; (conv in exitId _ => whnf)) | (apply st_ret; exact rfl)) | ((with_reducible refine retW_intro rfl ?_); (conv => arg 2; whnf)) | ((with_reducible first | refine iB (fun hb => ?_) (fun hb => ?_) | refine gWt (fun hb => ?_) (fun hb => ?_) | refine gWf (fun hb => ?_) (fun hb => ?_)) <;> (try simp only [hb])) | (simp only [B, F, Nat.reduceLT, Nat.reduceLeDiff, Nat.reduceEqDiff, Nat.reduceAdd, Nat.reduceMul, Nat.reduceSub, ↓reduceIte, eq_self, hso, ← h1e, k0, hrow]))
    refine exW_grows (m := A.length) (new := rcsC A) Grows.none (Nat.le_refl _) hl (by omega) (by rw [rcs_len]) (by omega) (fun v' h2 gr x2 old blk => ?_)
    rw [Nat.zero_add, List.nil_append] at gr
    have o2 : Only h1 h2 [] := ⟨by omega, fun b hb _ => old b hb (by simp [blkOf])⟩
    have gr1 : Grows 5 h1.nx h2 v' A.length (rcsC A) := gr
    repeat' (first | (with_reducible refine main v' h2 o2 gr1 _ _ rfl ?_ ?_ ?_ ?_) | ((with_reducible show codeW _ _ _ _ (codeI _ _) _ _ _ _); first | (apply st_seq; exact rfl) | (refine st_reg ?_ rfl rfl ?_; exact rfl; (conv => arg 4; whnf); (conv => arg 3; whnf)) | (refine st_cond ?_ rfl ?_; exact rfl; (conv => arg 1; arg 2; whnf)) | (refine st_block ?_ rfl ?_; exact rfl; (conv => arg 9; arg 1; whnf)) | (apply st_skip; exact rfl) | (refine st_exit ?_ rfl ?_; exact rfl; (conv in exitId _ => whnf)) | (apply st_ret; exact rfl)) | ((with_reducible refine retW_intro rfl ?_); (conv => arg 2; whnf)) | ((with_reducible first | refine iB (fun hb => ?_) (fun hb => ?_) | refine gWt (fun hb => ?_) (fun hb => ?_) | refine gWf (fun hb => ?_) (fun hb => ?_)) <;> (try simp only [hb])) | (simp only [B, F, Nat.reduceLT, Nat.reduceLeDiff, Nat.reduceEqDiff, Nat.reduceAdd, Nat.reduceMul, Nat.reduceSub, ↓reduceIte, eq_self]))
def lkT (A : List Ch) (m : Nat) : Nat → Int
  | 0 => -1
  | i + 1 => match A[i]? with
    | some c => if c.rev.1 ≤ m then Int.ofNat i else lkT A m i
    | none => lkT A m i
def iV (k : Int) : AV := .int .i64 k
structure LkI (h0 : H) (s : AV) (A : List Ch) (m : Nat) (n : Nat) (ds : List Nat) (tm : T AV) (h : H) (i : Nat) : Prop where
  ds : ds = []
  nn : n = A.length - i
  ii : i ≤ A.length
  t1 : tm.get 1 = some (.int .u64 (.ofNat m))
  t2 : tm.get 2 = some (.ptr h0.nx 0)
  t5 : tm.get 5 = some (.int .i64 (lkT A m i))
  t6 : tm.get 6 = some (.int .i64 (.ofNat i))
  hh : h = h0.newCells 52 [s]
theorem rLastC (h0 : H) (v : AV) (A : List Ch) (m : Nat) (hr : RefAt h0 v A) (hz : A.length ≤ 1000) : PushC P (.enter 73 [v, n64 m] h0) (Says h0 (.int .i64 (lkT A m A.length))) := by
  obtain ⟨s, rfl, hs, hn⟩ := hr
  have hso := SliceAt.one hs
  have hlen := hs.len (P := P) u50
  have k0 : cellAt (h0.newCells 52 [s]) h0.nx 0 = some s := by simp only [B, xB, F, Nat.reduceLT, Nat.reduceLeDiff, Nat.reduceEqDiff, Nat.reduceAdd, Nat.reduceMul, Nat.reduceSub, ↓reduceIte, eq_self]
  unfold n64
  refine pushC_of_codeW (fn := Try.f73) (c := bodyC Try.f73) Try.func73 rfl ?_
  show codeW P 73 25 none _ _ _ _ _
  refine codeW_root ?_
  repeat' (first | ((with_reducible show codeW _ _ _ _ (codeI _ _) _ _ _ _); first | (apply st_seq; exact rfl) | (refine st_reg ?_ rfl rfl ?_; exact rfl; (conv => arg 4; whnf); (conv => arg 3; whnf)) | (refine st_cond ?_ rfl ?_; exact rfl; (conv => arg 1; arg 2; whnf)) | (refine st_block ?_ rfl ?_; exact rfl; (conv => arg 9; arg 1; whnf)) | (apply st_skip; exact rfl) | (refine st_exit ?_ rfl ?_; exact rfl; (conv in exitId _ => whnf)) | (apply st_ret; exact rfl)) | ((with_reducible refine retW_intro rfl ?_); (conv => arg 2; whnf)) | ((with_reducible first | refine iB (fun hb => ?_) (fun hb => ?_) | refine gWt (fun hb => ?_) (fun hb => ?_) | refine gWf (fun hb => ?_) (fun hb => ?_)) <;> (try simp only [hb])) | (simp only [B, F, Nat.reduceLT, Nat.reduceLeDiff, Nat.reduceEqDiff, Nat.reduceAdd, Nat.reduceMul, Nat.reduceSub, ↓reduceIte, eq_self, hso]))
  refine st_loop (fun n ds tm h => ∃ i, LkI h0 s A m n ds tm h i) A.length rfl ⟨0, rfl, rfl, Nat.zero_le _, by simp only [B, F, Nat.reduceLT, Nat.reduceLeDiff, Nat.reduceEqDiff, Nat.reduceAdd, Nat.reduceMul, Nat.reduceSub, ↓reduceIte, eq_self], by simp only [B, F, Nat.reduceLT, Nat.reduceLeDiff, Nat.reduceEqDiff, Nat.reduceAdd, Nat.reduceMul, Nat.reduceSub, ↓reduceIte, eq_self], by simp only [B, F, Nat.reduceLT, Nat.reduceLeDiff, Nat.reduceEqDiff, Nat.reduceAdd, Nat.reduceMul, Nat.reduceSub, ↓reduceIte, eq_self]; rfl, by simp only [B, F, Nat.reduceLT, Nat.reduceLeDiff, Nat.reduceEqDiff, Nat.reduceAdd, Nat.reduceMul, Nat.reduceSub, ↓reduceIte, eq_self], rfl⟩ (fun n ds tm h hI => ?_)
  obtain ⟨i, rfl, rfl, ii, t1, t2, t5, t6, rfl⟩ := hI
  by_cases hi : i < A.length
  · have d1 : decide (i < A.length) = true := decide_eq_true hi
    have lt1 : (i < A.length) = True := by simp [hi]
    have w1 : wrapF .i64 (Int.ofNat i + Int.ofNat 1) = Int.ofNat (i + 1) := i64_add (by omega)
    obtain ⟨c, hc⟩ : ∃ c, A[i]? = some c := ⟨_, List.getElem?_eq_getElem hi⟩
    obtain ⟨b, o, cap, rfl, hb, -⟩ := hs.place (by omega)
    have hp0 := (rcC_at hs hc).1
    have p0 := kcell hp0 ((Only.refl h0 []).new 52 [.slice b o A.length cap]) hb (by simp)
    have nb : (b = h0.nx) = False := by simp; omega
    cases q : decide (c.rev.1 ≤ m) with
    | true =>
      have e : lkT A m (i + 1) = Int.ofNat i := by rw [lkT, hc]; simp only; rw [if_pos (of_decide_eq_true q)]
      repeat' (first | ((with_reducible show codeW _ _ _ _ (codeI _ _) _ _ _ _); first | (apply st_seq; exact rfl) | (refine st_reg ?_ rfl rfl ?_; exact rfl; (conv => arg 4; whnf); (conv => arg 3; whnf)) | (refine st_cond ?_ rfl ?_; exact rfl; (conv => arg 1; arg 2; whnf)) | (refine st_block ?_ rfl ?_; exact rfl; (conv => arg 9; arg 1; whnf)) | (apply st_skip; exact rfl) | (refine st_exit ?_ rfl ?_; exact rfl; (conv in exitId _ => whnf)) | (apply st_ret; exact rfl)) | ((with_reducible refine retW_intro rfl ?_); (conv => arg 2; whnf)) | ((with_reducible first | refine iB (fun hb => ?_) (fun hb => ?_) | refine gWt (fun hb => ?_) (fun hb => ?_) | refine gWf (fun hb => ?_) (fun hb => ?_)) <;> (try simp only [hb])) | (simp only [B, F, Nat.reduceLT, Nat.reduceLeDiff, Nat.reduceEqDiff, Nat.reduceAdd, Nat.reduceMul, Nat.reduceSub, ↓reduceIte, eq_self, t1, t2, t5, t6, k0, hlen, d1, lt1, nb, hp0, p0, q, w1]))
      exact ⟨A.length - (i + 1), by omega, i + 1, rfl, rfl, hi, by simp only [B, F, Nat.reduceLT, Nat.reduceLeDiff, Nat.reduceEqDiff, Nat.reduceAdd, Nat.reduceMul, Nat.reduceSub, ↓reduceIte, eq_self, t1], by simp only [B, F, Nat.reduceLT, Nat.reduceLeDiff, Nat.reduceEqDiff, Nat.reduceAdd, Nat.reduceMul, Nat.reduceSub, ↓reduceIte, eq_self, t2], by simp only [B, F, Nat.reduceLT, Nat.reduceLeDiff, Nat.reduceEqDiff, Nat.reduceAdd, Nat.reduceMul, Nat.reduceSub, ↓reduceIte, eq_self, e], by simp only [B, F, Nat.reduceLT, Nat.reduceLeDiff, Nat.reduceEqDiff, Nat.reduceAdd, Nat.reduceMul, Nat.reduceSub, ↓reduceIte, eq_self], rfl⟩
    | false =>
      have e : lkT A m (i + 1) = lkT A m i := by rw [lkT, hc]; simp only; rw [if_neg (of_decide_eq_false q)]
      repeat' (first | ((with_reducible show codeW _ _ _ _ (codeI _ _) _ _ _ _); first | (apply st_seq; exact rfl) | (refine st_reg ?_ rfl rfl ?_; exact rfl; (conv => arg 4; whnf); (conv => arg 3; whnf)) | (refine st_cond ?_ rfl ?_; exact rfl; (conv => arg 1; arg 2; whnf)) | (refine st_block ?_ rfl ?_; exact rfl; (conv => arg 9; arg 1; whnf)) | (apply st_skip; exact rfl) | (refine st_exit ?_ rfl ?_; exact rfl; (conv in exitId _ => whnf)) | (apply st_ret; exact rfl)) | ((with_reducible refine retW_intro rfl ?_); (conv => arg 2; whnf)) | ((with_reducible first | refine iB (fun hb => ?_) (fun hb => ?_) | refine gWt (fun hb => ?_) (fun hb => ?_) | refine gWf (fun hb => ?_) (fun hb => ?_)) <;> (try simp only [hb])) | (simp only [B, F, Nat.reduceLT, Nat.reduceLeDiff, Nat.reduceEqDiff, Nat.reduceAdd, Nat.reduceMul, Nat.reduceSub, ↓reduceIte, eq_self, t1, t2, t5, t6, k0, hlen, d1, lt1, nb, hp0, p0, q, w1]))
      exact ⟨A.length - (i + 1), by omega, i + 1, rfl, rfl, hi, by simp only [B, F, Nat.reduceLT, Nat.reduceLeDiff, Nat.reduceEqDiff, Nat.reduceAdd, Nat.reduceMul, Nat.reduceSub, ↓reduceIte, eq_self, t1], by simp only [B, F, Nat.reduceLT, Nat.reduceLeDiff, Nat.reduceEqDiff, Nat.reduceAdd, Nat.reduceMul, Nat.reduceSub, ↓reduceIte, eq_self, t2], by rw [e]; simp only [B, F, Nat.reduceLT, Nat.reduceLeDiff, Nat.reduceEqDiff, Nat.reduceAdd, Nat.reduceMul, Nat.reduceSub, ↓reduceIte, eq_self, t5], by simp only [B, F, Nat.reduceLT, Nat.reduceLeDiff, Nat.reduceEqDiff, Nat.reduceAdd, Nat.reduceMul, Nat.reduceSub, ↓reduceIte, eq_self], rfl⟩
  · have d1 : decide (i < A.length) = false := decide_eq_false hi
    obtain rfl : i = A.length := by omega
    repeat' (first | ((with_reducible show codeW _ _ _ _ (codeI _ _) _ _ _ _); first | (apply st_seq; exact rfl) | (refine st_reg ?_ rfl rfl ?_; exact rfl; (conv => arg 4; whnf); (conv => arg 3; whnf)) | (refine st_cond ?_ rfl ?_; exact rfl; (conv => arg 1; arg 2; whnf)) | (refine st_block ?_ rfl ?_; exact rfl; (conv => arg 9; arg 1; whnf)) | (apply st_skip; exact rfl) | (refine st_exit ?_ rfl ?_; exact rfl; (conv in exitId _ => whnf)) | (apply st_ret; exact rfl)) | ((with_reducible refine retW_intro rfl ?_); (conv => arg 2; whnf)) | ((with_reducible first | refine iB (fun hb => ?_) (fun hb => ?_) | refine gWt (fun hb => ?_) (fun hb => ?_) | refine gWf (fun hb => ?_) (fun hb => ?_)) <;> (try simp only [hb])) | (simp only [B, F, Nat.reduceLT, Nat.reduceLeDiff, Nat.reduceEqDiff, Nat.reduceAdd, Nat.reduceMul, Nat.reduceSub, ↓reduceIte, eq_self, t1, t2, t5, t6, k0, hlen, d1]))
    exact ⟨rfl, (Only.refl _ _).new _ _⟩
theorem lkT_lst (A : List Ch) (m : Nat) : ∀ i, i ≤ A.length → (lst (atP m) (A.take i) = none ∧ lkT A m i = -1) ∨ ∃ j c, j < i ∧ A[j]? = some c ∧ lst (atP m) (A.take i) = some c ∧ lkT A m i = Int.ofNat j
  | 0, _ => .inl ⟨by simp [lst], rfl⟩
  | i + 1, hi => by
    have hc : A[i]? = some A[i] := List.getElem?_eq_getElem hi
    rw [lst_take hc]
    unfold lkT
    rw [hc]
    simp only
    by_cases q : A[i].rev.1 ≤ m
    · have hq : atP m A[i] = true := decide_eq_true q
      exact .inr ⟨i, A[i], Nat.lt_succ_self _, hc, by rw [if_pos hq], by rw [if_pos q]⟩
    · have hq : atP m A[i] = false := decide_eq_false q
      rw [hq, if_neg q]
      rcases lkT_lst A m i (by omega) with ⟨h1, h2⟩ | ⟨j, c, h1, h2, h3, h4⟩
      · exact .inl ⟨by simpa using h1, h2⟩
      · exact .inr ⟨j, c, by omega, h2, by simpa using h3, h4⟩
theorem lkT_all (A : List Ch) (m : Nat) : (lst (atP m) A = none ∧ lkT A m A.length = -1) ∨ ∃ j c, j < A.length ∧ A[j]? = some c ∧ lst (atP m) A = some c ∧ lkT A m A.length = Int.ofNat j := by
  have := lkT_lst A m A.length (Nat.le_refl _)
  rwa [List.take_length] at this
def atA (A : List Ch) (m : Nat) : Ch := (isK A m).headD ch0
def atT (A : List Ch) (m : Nat) : Bool := !(isK A m).isEmpty
theorem rAtC (h : H) (v : AV) (A : List Ch) (m : Nat) (hr : RefAt h v A) (hz : A.length ≤ 1000) :
    PushC P (.enter 54 [v, n64 m] h) fun v h' => v = .tuple [rvA (atA A m).rev, n64 (atA A m).made, n64 (atA A m).nth, .bool (atT A m)] ∧ Only h h' [] := by
  have hr0 := hr
  obtain ⟨s, rfl, hs, hn⟩ := hr
  have hso := SliceAt.one hs
  unfold n64
  refine pushC_of_codeW (fn := Try.f54) (c := bodyC Try.f54) Try.func54 rfl ?_
  show codeW P 54 41 none _ _ _ _ _
  refine codeW_root ?_
  repeat' (first | ((with_reducible show codeW _ _ _ _ (codeI _ _) _ _ _ _); first | (apply st_seq; exact rfl) | (refine st_reg ?_ rfl rfl ?_; exact rfl; (conv => arg 4; whnf); (conv => arg 3; whnf)) | (refine st_dw ?_ rfl rfl ?_ ?_; exact rfl; kernel_rfl; (conv => arg 5; whnf); (conv => arg 3; whnf)) | (refine st_cond ?_ rfl ?_; exact rfl; (conv => arg 1; arg 2; whnf)) | (refine st_block ?_ rfl ?_; exact rfl; (conv => arg 9; arg 1; whnf)) | (apply st_skip; exact rfl) | (refine st_exit ?_ rfl ?_; exact rfl; (conv in exitId _ => whnf)) | (apply st_ret; exact rfl)) | ((with_reducible refine retW_intro rfl ?_); (conv => arg 2; whnf)) | ((with_reducible first | refine iB (fun hb => ?_) (fun hb => ?_) | refine gWt (fun hb => ?_) (fun hb => ?_) | refine gWf (fun hb => ?_) (fun hb => ?_) | refine gXt (fun hb => ?_) (fun hb => ?_) | refine gXf (fun hb => ?_) (fun hb => ?_)) <;> (try simp only [hb])) | ((with_reducible show drawI _ _ _ _ _ _ _ _ _); first | (apply kI_rd; exact rfl) | (apply kI_rg; exact rfl; exact rfl) | (apply kI_cv; exact rfl; kernel_rfl) | (apply kI_al; exact rfl; exact rfl) | (apply kI_ex; exact rfl; kernel_rfl; exact rfl) | (apply kI_eg; exact rfl; kernel_rfl; exact rfl) | (apply kI_nl)) | ((with_reducible show eOk _ _ _ _ _ _); first | (exact eok_nil) | (apply ke_rd; exact rfl) | (apply ke_rg; exact rfl; exact rfl) | (apply ke_cv; exact rfl; kernel_rfl) | (apply ke_al; exact rfl; exact rfl)) | ((with_reducible apply freshIs_new); kernel_rfl) | (simp only [B, xB, F, Nat.reduceLT, Nat.reduceLeDiff, Nat.reduceEqDiff, Nat.reduceAdd, Nat.reduceMul, Nat.reduceSub, ↓reduceIte, eq_self, hso]))
  obtain ⟨h1, h1e⟩ : ∃ h1, h1 = (h.newCells 52 [s]).newCells 35 [.int .u64 (.ofNat 0), .int .u64 (.ofNat 0)] := ⟨_, rfl⟩
  have o1 : Only h h1 [] := by rw [h1e]; exact ((Only.refl _ _).new _ _).new _ _
  have x1 : h1.nx = h.nx + 2 := by rw [h1e]; rfl
  have k0 : cellAt h1 h.nx 0 = some s := by rw [h1e]; simp only [B, xB, F, Nat.reduceLT, Nat.reduceLeDiff, Nat.reduceEqDiff, Nat.reduceAdd, Nat.reduceMul, Nat.reduceSub, ↓reduceIte, eq_self]
  have r0 : cellAt h1 (h.nx + 1) 0 = some (.int .u64 (.ofNat 0)) := by rw [h1e]; simp only [B, xB, F, Nat.reduceLT, Nat.reduceLeDiff, Nat.reduceEqDiff, Nat.reduceAdd, Nat.reduceMul, Nat.reduceSub, ↓reduceIte, eq_self]
  have r1 : cellAt h1 (h.nx + 1) 1 = some (.int .u64 (.ofNat 0)) := by rw [h1e]; simp only [B, xB, F, Nat.reduceLT, Nat.reduceLeDiff, Nat.reduceEqDiff, Nat.reduceAdd, Nat.reduceMul, Nat.reduceSub, ↓reduceIte, eq_self]
  have rw1 : wrAt h1 (h.nx + 1) = true := by rw [h1e]; simp only [B, xB, F, Nat.reduceLT, Nat.reduceLeDiff, Nat.reduceEqDiff, Nat.reduceAdd, Nat.reduceMul, Nat.reduceSub, ↓reduceIte, eq_self]
  rw [← h1e]
  refine ((rLastC h1 _ A m (hr0.keep o1) hz).call P).mono P ?_
  rintro v h2 ⟨rfl, o2⟩
  have xo2 := o2.1
  first | replace k0 := kcell k0 o2 (by omega) (by simp) | replace k0 := kwr k0 o2 (by omega) (by simp)
  first | replace r0 := kcell r0 o2 (by omega) (by simp) | replace r0 := kwr r0 o2 (by omega) (by simp)
  first | replace r1 := kcell r1 o2 (by omega) (by simp) | replace r1 := kwr r1 o2 (by omega) (by simp)
  first | replace rw1 := kcell rw1 o2 (by omega) (by simp) | replace rw1 := kwr rw1 o2 (by omega) (by simp)
  have oo := o1.t o2
  have fin : ∀ x y : Nat, Only h (h2.sts (h.nx + 1) 0 [.int .u64 (.ofNat x), .int .u64 (.ofNat y)]) [] := fun x y => oo.sts (.inr (by omega))
  rcases lkT_all A m with ⟨e1, e2⟩ | ⟨j, c, hj, hc, e1, e2⟩
  · have hk : isK A m = [] := by unfold isK; rw [e1]
    have d0 : decide ((-1 : Int) < Int.ofNat 0) = true := rfl
    rw [e2]
    unfold atA atT
    rw [hk]
    repeat' (first | ((with_reducible show codeW _ _ _ _ (codeI _ _) _ _ _ _); first | (apply st_seq; exact rfl) | (refine st_reg ?_ rfl rfl ?_; exact rfl; (conv => arg 4; whnf); (conv => arg 3; whnf)) | (refine st_dw ?_ rfl rfl ?_ ?_; exact rfl; kernel_rfl; (conv => arg 5; whnf); (conv => arg 3; whnf)) | (refine st_cond ?_ rfl ?_; exact rfl; (conv => arg 1; arg 2; whnf)) | (refine st_block ?_ rfl ?_; exact rfl; (conv => arg 9; arg 1; whnf)) | (apply st_skip; exact rfl) | (refine st_exit ?_ rfl ?_; exact rfl; (conv in exitId _ => whnf)) | (apply st_ret; exact rfl)) | ((with_reducible refine retW_intro rfl ?_); (conv => arg 2; whnf)) | ((with_reducible first | refine iB (fun hb => ?_) (fun hb => ?_) | refine gWt (fun hb => ?_) (fun hb => ?_) | refine gWf (fun hb => ?_) (fun hb => ?_) | refine gXt (fun hb => ?_) (fun hb => ?_) | refine gXf (fun hb => ?_) (fun hb => ?_)) <;> (try simp only [hb])) | ((with_reducible show drawI _ _ _ _ _ _ _ _ _); first | (apply kI_rd; exact rfl) | (apply kI_rg; exact rfl; exact rfl) | (apply kI_cv; exact rfl; kernel_rfl) | (apply kI_al; exact rfl; exact rfl) | (apply kI_ex; exact rfl; kernel_rfl; exact rfl) | (apply kI_eg; exact rfl; kernel_rfl; exact rfl) | (apply kI_nl)) | ((with_reducible show eOk _ _ _ _ _ _); first | (exact eok_nil) | (apply ke_rd; exact rfl) | (apply ke_rg; exact rfl; exact rfl) | (apply ke_cv; exact rfl; kernel_rfl) | (apply ke_al; exact rfl; exact rfl)) | ((with_reducible apply freshIs_new); kernel_rfl) | (simp only [B, xB, F, Nat.reduceLT, Nat.reduceLeDiff, Nat.reduceEqDiff, Nat.reduceAdd, Nat.reduceMul, Nat.reduceSub, ↓reduceIte, eq_self, k0, d0, put_sts, rw1, r0, r1, cellAt_sts rw1]))
    exact ⟨rfl, fin 0 0⟩
  · obtain ⟨b, o, cap, rfl, hb, -⟩ := hs.place (by omega)
    obtain ⟨p0, p1, p2, p3, p4⟩ := rcC_at hs hc
    have ob := oo
    first | replace p0 := kcell p0 ob (by omega) (by simp) | replace p0 := kwr p0 ob (by omega) (by simp)
    first | replace p1 := kcell p1 ob (by omega) (by simp) | replace p1 := kwr p1 ob (by omega) (by simp)
    first | replace p2 := kcell p2 ob (by omega) (by simp) | replace p2 := kwr p2 ob (by omega) (by simp)
    first | replace p3 := kcell p3 ob (by omega) (by simp) | replace p3 := kwr p3 ob (by omega) (by simp)
    first | replace p4 := kcell p4 ob (by omega) (by simp) | replace p4 := kwr p4 ob (by omega) (by simp)
    have nb : (b = h.nx + 1) = False := by simp; omega
    have d0 : decide (Int.ofNat j < Int.ofNat 0) = false := decide_eq_false (by simp)
    have d1 : decide (j < 0) = false := rfl
    have lt1 : (j < A.length) = True := by simp [hj]
    rw [e2]
    cases ht : c.tomb with
    | true =>
      have hk : isK A m = [] := by unfold isK; rw [e1]; simp [ht]
      rw [ht] at p2
      unfold atA atT
      rw [hk]
      repeat' (first | ((with_reducible show codeW _ _ _ _ (codeI _ _) _ _ _ _); first | (apply st_seq; exact rfl) | (refine st_reg ?_ rfl rfl ?_; exact rfl; (conv => arg 4; whnf); (conv => arg 3; whnf)) | (refine st_dw ?_ rfl rfl ?_ ?_; exact rfl; kernel_rfl; (conv => arg 5; whnf); (conv => arg 3; whnf)) | (refine st_cond ?_ rfl ?_; exact rfl; (conv => arg 1; arg 2; whnf)) | (refine st_block ?_ rfl ?_; exact rfl; (conv => arg 9; arg 1; whnf)) | (apply st_skip; exact rfl) | (refine st_exit ?_ rfl ?_; exact rfl; (conv in exitId _ => whnf)) | (apply st_ret; exact rfl)) | ((with_reducible refine retW_intro rfl ?_); (conv => arg 2; whnf)) | ((with_reducible first | refine iB (fun hb => ?_) (fun hb => ?_) | refine gWt (fun hb => ?_) (fun hb => ?_) | refine gWf (fun hb => ?_) (fun hb => ?_) | refine gXt (fun hb => ?_) (fun hb => ?_) | refine gXf (fun hb => ?_) (fun hb => ?_)) <;> (try simp only [hb])) | ((with_reducible show drawI _ _ _ _ _ _ _ _ _); first | (apply kI_rd; exact rfl) | (apply kI_rg; exact rfl; exact rfl) | (apply kI_cv; exact rfl; kernel_rfl) | (apply kI_al; exact rfl; exact rfl) | (apply kI_ex; exact rfl; kernel_rfl; exact rfl) | (apply kI_eg; exact rfl; kernel_rfl; exact rfl) | (apply kI_nl)) | ((with_reducible show eOk _ _ _ _ _ _); first | (exact eok_nil) | (apply ke_rd; exact rfl) | (apply ke_rg; exact rfl; exact rfl) | (apply ke_cv; exact rfl; kernel_rfl) | (apply ke_al; exact rfl; exact rfl)) | ((with_reducible apply freshIs_new); kernel_rfl) | (simp only [B, xB, F, Nat.reduceLT, Nat.reduceLeDiff, Nat.reduceEqDiff, Nat.reduceAdd, Nat.reduceMul, Nat.reduceSub, ↓reduceIte, eq_self, k0, d0, d1, put_sts, rw1, r0, r1, cellAt_sts rw1, lt1, nb, p0, p1, p2, p3, p4]))
      exact ⟨rfl, fin 0 0⟩
    | false =>
      have hk : isK A m = [c] := by unfold isK; rw [e1]; simp [ht]
      rw [ht] at p2
      unfold atA atT
      rw [hk]
      repeat' (first | ((with_reducible show codeW _ _ _ _ (codeI _ _) _ _ _ _); first | (apply st_seq; exact rfl) | (refine st_reg ?_ rfl rfl ?_; exact rfl; (conv => arg 4; whnf); (conv => arg 3; whnf)) | (refine st_dw ?_ rfl rfl ?_ ?_; exact rfl; kernel_rfl; (conv => arg 5; whnf); (conv => arg 3; whnf)) | (refine st_cond ?_ rfl ?_; exact rfl; (conv => arg 1; arg 2; whnf)) | (refine st_block ?_ rfl ?_; exact rfl; (conv => arg 9; arg 1; whnf)) | (apply st_skip; exact rfl) | (refine st_exit ?_ rfl ?_; exact rfl; (conv in exitId _ => whnf)) | (apply st_ret; exact rfl)) | ((with_reducible refine retW_intro rfl ?_); (conv => arg 2; whnf)) | ((with_reducible first | refine iB (fun hb => ?_) (fun hb => ?_) | refine gWt (fun hb => ?_) (fun hb => ?_) | refine gWf (fun hb => ?_) (fun hb => ?_) | refine gXt (fun hb => ?_) (fun hb => ?_) | refine gXf (fun hb => ?_) (fun hb => ?_)) <;> (try simp only [hb])) | ((with_reducible show drawI _ _ _ _ _ _ _ _ _); first | (apply kI_rd; exact rfl) | (apply kI_rg; exact rfl; exact rfl) | (apply kI_cv; exact rfl; kernel_rfl) | (apply kI_al; exact rfl; exact rfl) | (apply kI_ex; exact rfl; kernel_rfl; exact rfl) | (apply kI_eg; exact rfl; kernel_rfl; exact rfl) | (apply kI_nl)) | ((with_reducible show eOk _ _ _ _ _ _); first | (exact eok_nil) | (apply ke_rd; exact rfl) | (apply ke_rg; exact rfl; exact rfl) | (apply ke_cv; exact rfl; kernel_rfl) | (apply ke_al; exact rfl; exact rfl)) | ((with_reducible apply freshIs_new); kernel_rfl) | (simp only [B, xB, F, Nat.reduceLT, Nat.reduceLeDiff, Nat.reduceEqDiff, Nat.reduceAdd, Nat.reduceMul, Nat.reduceSub, ↓reduceIte, eq_self, k0, d0, d1, put_sts, rw1, r0, r1, cellAt_sts rw1, lt1, nb, p0, p1, p2, p3, p4]))
      exact ⟨rfl, fin _ _⟩
end
end Go.Proofs.Ytlkngpckibidlaa.W

namespace Go.Proofs.Ytlkngpckibidlaa.W
open Go Go.AX
noncomputable section
set_option maxRecDepth 100000
structure SiI (h0 : H) (s : AV) (A : List Ch) (m : Nat) (n : Nat) (ds : List Nat) (tm : T AV) (h : H) (i : Nat) (w : AV) : Prop where
  ds : ds = []
  nn : n = A.length - i
  ii : i ≤ A.length
  t1 : tm.get 1 = some (.int .u64 (.ofNat m))
  t2 : tm.get 2 = some (.ptr h0.nx 0)
  t5 : tm.get 5 = some w
  t6 : tm.get 6 = some (.int .i64 (.ofNat i))
  oo : Only h0 h []
  k0 : cellAt h h0.nx 0 = some s
  nx : h0.nx < h.nx
  gr : Grows 2 (h0.nx + 1) h w (sinceL m (A.take i)).length (rvsC (sinceL m (A.take i)))
theorem rSinceC (h0 : H) (v : AV) (A : List Ch) (m : Nat) (hr : RefAt h0 v A) (hz : A.length ≤ 1000) :
    PushC P (.enter 55 [v, n64 m] h0) fun v h' => Only h0 h' [] ∧ Grows 2 h0.nx h' v (sinceL m A).length (rvsC (sinceL m A)) := by
  obtain ⟨s, rfl, hs, hn⟩ := hr
  have hso := SliceAt.one hs
  have hlen := hs.len (P := P) u50
  have k0 : cellAt (h0.newCells 52 [s]) h0.nx 0 = some s := by simp only [B, xB, F, Nat.reduceLT, Nat.reduceLeDiff, Nat.reduceEqDiff, Nat.reduceAdd, Nat.reduceMul, Nat.reduceSub, ↓reduceIte, eq_self]
  unfold n64
  refine pushC_of_codeW (fn := Try.f55) (c := bodyC Try.f55) Try.func55 rfl ?_
  show codeW P 55 33 none _ _ _ _ _
  refine codeW_root ?_
  repeat' (first | ((with_reducible show codeW _ _ _ _ (codeI _ _) _ _ _ _); first | (apply st_seq; exact rfl) | (refine st_reg ?_ rfl rfl ?_; exact rfl; (conv => arg 4; whnf); (conv => arg 3; whnf)) | (refine st_cond ?_ rfl ?_; exact rfl; (conv => arg 1; arg 2; whnf)) | (refine st_block ?_ rfl ?_; exact rfl; (conv => arg 9; arg 1; whnf)) | (apply st_skip; exact rfl) | (refine st_exit ?_ rfl ?_; exact rfl; (conv in exitId _ => whnf)) | (apply st_ret; exact rfl)) | ((with_reducible refine retW_intro rfl ?_); (conv => arg 2; whnf)) | ((with_reducible first | refine iB (fun hb => ?_) (fun hb => ?_) | refine gWt (fun hb => ?_) (fun hb => ?_) | refine gWf (fun hb => ?_) (fun hb => ?_)) <;> (try simp only [hb])) | (simp only [B, F, Nat.reduceLT, Nat.reduceLeDiff, Nat.reduceEqDiff, Nat.reduceAdd, Nat.reduceMul, Nat.reduceSub, ↓reduceIte, eq_self, hso]))
  refine st_loop (fun n ds tm h => ∃ i w, SiI h0 s A m n ds tm h i w) A.length rfl ⟨0, .nilslice, rfl, rfl, Nat.zero_le _, by simp only [B, F, Nat.reduceLT, Nat.reduceLeDiff, Nat.reduceEqDiff, Nat.reduceAdd, Nat.reduceMul, Nat.reduceSub, ↓reduceIte, eq_self], by simp only [B, F, Nat.reduceLT, Nat.reduceLeDiff, Nat.reduceEqDiff, Nat.reduceAdd, Nat.reduceMul, Nat.reduceSub, ↓reduceIte, eq_self], by simp only [B, F, Nat.reduceLT, Nat.reduceLeDiff, Nat.reduceEqDiff, Nat.reduceAdd, Nat.reduceMul, Nat.reduceSub, ↓reduceIte, eq_self], by simp only [B, F, Nat.reduceLT, Nat.reduceLeDiff, Nat.reduceEqDiff, Nat.reduceAdd, Nat.reduceMul, Nat.reduceSub, ↓reduceIte, eq_self], (Only.refl _ _).new _ _, k0, Nat.lt_succ_self _, Grows.none⟩ (fun n ds tm h hI => ?_)
  clear k0
  obtain ⟨i, w, rfl, rfl, ii, t1, t2, t5, t6, oo, k0, nx, gr⟩ := hI
  have go1 := gr.one
  by_cases hi : i < A.length
  · have d1 : decide (i < A.length) = true := decide_eq_true hi
    have lt1 : (i < A.length) = True := by simp [hi]
    have w1 : wrapF .i64 (Int.ofNat i + Int.ofNat 1) = Int.ofNat (i + 1) := i64_add (by omega)
    obtain ⟨c, hc⟩ : ∃ c, A[i]? = some c := ⟨_, List.getElem?_eq_getElem hi⟩
    obtain ⟨b, o, cap, rfl, hb, -⟩ := hs.place (by omega)
    obtain ⟨p0, p1, -⟩ := rcC_at hs hc
    first | replace p0 := kcell p0 oo (by omega) (by simp) | replace p0 := kwr p0 oo (by omega) (by simp)
    first | replace p1 := kcell p1 oo (by omega) (by simp) | replace p1 := kwr p1 oo (by omega) (by simp)
    have hst := since_take (m := m) hc
    have hsl := since_len m (A.take i)
    rw [List.length_take] at hsl
    have x0 := oo.1
    cases q : decide (m ≤ c.rev.1) with
    | true =>
      rw [if_pos (of_decide_eq_true q)] at hst
      obtain ⟨h1, h1e⟩ : ∃ h1, h1 = h.newCells 35 [.int .u64 (.ofNat c.rev.1), .int .u64 (.ofNat c.rev.2)] := ⟨_, rfl⟩
      have i0 : cellAt h1 h.nx 0 = some (.int .u64 (.ofNat c.rev.1)) := by rw [h1e]; simp only [B, F, Nat.reduceLT, Nat.reduceLeDiff, Nat.reduceEqDiff, Nat.reduceAdd, Nat.reduceMul, Nat.reduceSub, ↓reduceIte, eq_self]
      have i1 : cellAt h1 h.nx 1 = some (.int .u64 (.ofNat c.rev.2)) := by rw [h1e]; simp only [B, F, Nat.reduceLT, Nat.reduceLeDiff, Nat.reduceEqDiff, Nat.reduceAdd, Nat.reduceMul, Nat.reduceSub, ↓reduceIte, eq_self]
      have o1 : Only h h1 [] := by rw [h1e]; exact (Only.refl _ _).new _ _
      have x1 : h1.nx = h.nx + 1 := by rw [h1e]; rfl
      have gr1 : Grows 2 (h0.nx + 1) h1 w _ _ := gr.of_get o1.1 (fun b hb => by rw [h1e, get_new _ _ _ (by have := (gr.base hb).2; omega)])
      repeat' (first | ((with_reducible show codeW _ _ _ _ (codeI _ _) _ _ _ _); first | (apply st_seq; exact rfl) | (refine st_reg ?_ rfl rfl ?_; exact rfl; (conv => arg 4; whnf); (conv => arg 3; whnf)) | (refine st_cond ?_ rfl ?_; exact rfl; (conv => arg 1; arg 2; whnf)) | (refine st_block ?_ rfl ?_; exact rfl; (conv => arg 9; arg 1; whnf)) | (apply st_skip; exact rfl) | (refine st_exit ?_ rfl ?_; exact rfl; (conv in exitId _ => whnf)) | (apply st_ret; exact rfl)) | ((with_reducible refine retW_intro rfl ?_); (conv => arg 2; whnf)) | ((with_reducible first | refine iB (fun hb => ?_) (fun hb => ?_) | refine gWt (fun hb => ?_) (fun hb => ?_) | refine gWf (fun hb => ?_) (fun hb => ?_)) <;> (try simp only [hb])) | (simp only [B, F, Nat.reduceLT, Nat.reduceLeDiff, Nat.reduceEqDiff, Nat.reduceAdd, Nat.reduceMul, Nat.reduceSub, ↓reduceIte, eq_self, t1, t2, t5, t6, k0, hlen, d1, lt1, p0, p1, q, w1, ← h1e, i0, i1]))
      refine exW_grows (m := 1) (new := rvC c.rev) gr1 (by omega) (by omega) (by omega) rfl (by omega) (fun v' h2 gr2 x2 old2 blk2 => ?_)
      have e : rvsC (sinceL m (A.take i)) ++ rvC c.rev = rvsC (sinceL m (A.take i) ++ [c.rev]) := by simp [rvsC]
      rw [e] at gr2
      have o2 : Only h0 h2 [] := ⟨by omega, fun b hb _ => by
        rw [old2 b (by omega) (fun q => by have := (gr1.base q).1; omega)]; exact (oo.t o1).2 b hb (by simp)⟩
      have k02 := (cellAt_of_get (old2 h0.nx (by omega) (fun q => by have := (gr1.base q).1; omega)) 0).trans (kcell k0 o1 (by omega) (by simp))
      have go2 := gr2.one
      repeat' (first | ((with_reducible show codeW _ _ _ _ (codeI _ _) _ _ _ _); first | (apply st_seq; exact rfl) | (refine st_reg ?_ rfl rfl ?_; exact rfl; (conv => arg 4; whnf); (conv => arg 3; whnf)) | (refine st_cond ?_ rfl ?_; exact rfl; (conv => arg 1; arg 2; whnf)) | (refine st_block ?_ rfl ?_; exact rfl; (conv => arg 9; arg 1; whnf)) | (apply st_skip; exact rfl) | (refine st_exit ?_ rfl ?_; exact rfl; (conv in exitId _ => whnf)) | (apply st_ret; exact rfl)) | ((with_reducible refine retW_intro rfl ?_); (conv => arg 2; whnf)) | ((with_reducible first | refine iB (fun hb => ?_) (fun hb => ?_) | refine gWt (fun hb => ?_) (fun hb => ?_) | refine gWf (fun hb => ?_) (fun hb => ?_)) <;> (try simp only [hb])) | (simp only [B, F, Nat.reduceLT, Nat.reduceLeDiff, Nat.reduceEqDiff, Nat.reduceAdd, Nat.reduceMul, Nat.reduceSub, ↓reduceIte, eq_self, t1, t2, t5, t6, w1, go2]))
      exact ⟨A.length - (i + 1), by omega, i + 1, v', rfl, rfl, hi, by simp only [B, F, Nat.reduceLT, Nat.reduceLeDiff, Nat.reduceEqDiff, Nat.reduceAdd, Nat.reduceMul, Nat.reduceSub, ↓reduceIte, eq_self, t1], by simp only [B, F, Nat.reduceLT, Nat.reduceLeDiff, Nat.reduceEqDiff, Nat.reduceAdd, Nat.reduceMul, Nat.reduceSub, ↓reduceIte, eq_self, t2], by simp only [B, F, Nat.reduceLT, Nat.reduceLeDiff, Nat.reduceEqDiff, Nat.reduceAdd, Nat.reduceMul, Nat.reduceSub, ↓reduceIte, eq_self], by simp only [B, F, Nat.reduceLT, Nat.reduceLeDiff, Nat.reduceEqDiff, Nat.reduceAdd, Nat.reduceMul, Nat.reduceSub, ↓reduceIte, eq_self], o2, k02, by omega, by rw [hst, List.length_append]; exact gr2⟩
    | false =>
      rw [if_neg (of_decide_eq_false q)] at hst
      repeat' (first | ((with_reducible show codeW _ _ _ _ (codeI _ _) _ _ _ _); first | (apply st_seq; exact rfl) | (refine st_reg ?_ rfl rfl ?_; exact rfl; (conv => arg 4; whnf); (conv => arg 3; whnf)) | (refine st_cond ?_ rfl ?_; exact rfl; (conv => arg 1; arg 2; whnf)) | (refine st_block ?_ rfl ?_; exact rfl; (conv => arg 9; arg 1; whnf)) | (apply st_skip; exact rfl) | (refine st_exit ?_ rfl ?_; exact rfl; (conv in exitId _ => whnf)) | (apply st_ret; exact rfl)) | ((with_reducible refine retW_intro rfl ?_); (conv => arg 2; whnf)) | ((with_reducible first | refine iB (fun hb => ?_) (fun hb => ?_) | refine gWt (fun hb => ?_) (fun hb => ?_) | refine gWf (fun hb => ?_) (fun hb => ?_)) <;> (try simp only [hb])) | (simp only [B, F, Nat.reduceLT, Nat.reduceLeDiff, Nat.reduceEqDiff, Nat.reduceAdd, Nat.reduceMul, Nat.reduceSub, ↓reduceIte, eq_self, t1, t2, t5, t6, k0, hlen, d1, lt1, p0, p1, q, w1]))
      exact ⟨A.length - (i + 1), by omega, i + 1, w, rfl, rfl, hi, by simp only [B, F, Nat.reduceLT, Nat.reduceLeDiff, Nat.reduceEqDiff, Nat.reduceAdd, Nat.reduceMul, Nat.reduceSub, ↓reduceIte, eq_self, t1], by simp only [B, F, Nat.reduceLT, Nat.reduceLeDiff, Nat.reduceEqDiff, Nat.reduceAdd, Nat.reduceMul, Nat.reduceSub, ↓reduceIte, eq_self, t2], by simp only [B, F, Nat.reduceLT, Nat.reduceLeDiff, Nat.reduceEqDiff, Nat.reduceAdd, Nat.reduceMul, Nat.reduceSub, ↓reduceIte, eq_self, t5], by simp only [B, F, Nat.reduceLT, Nat.reduceLeDiff, Nat.reduceEqDiff, Nat.reduceAdd, Nat.reduceMul, Nat.reduceSub, ↓reduceIte, eq_self], oo, k0, nx, by rw [hst]; exact gr⟩
  · have d1 : decide (i < A.length) = false := decide_eq_false hi
    obtain rfl : i = A.length := by omega
    rw [List.take_length] at gr
    repeat' (first | ((with_reducible show codeW _ _ _ _ (codeI _ _) _ _ _ _); first | (apply st_seq; exact rfl) | (refine st_reg ?_ rfl rfl ?_; exact rfl; (conv => arg 4; whnf); (conv => arg 3; whnf)) | (refine st_cond ?_ rfl ?_; exact rfl; (conv => arg 1; arg 2; whnf)) | (refine st_block ?_ rfl ?_; exact rfl; (conv => arg 9; arg 1; whnf)) | (apply st_skip; exact rfl) | (refine st_exit ?_ rfl ?_; exact rfl; (conv in exitId _ => whnf)) | (apply st_ret; exact rfl)) | ((with_reducible refine retW_intro rfl ?_); (conv => arg 2; whnf)) | ((with_reducible first | refine iB (fun hb => ?_) (fun hb => ?_) | refine gWt (fun hb => ?_) (fun hb => ?_) | refine gWf (fun hb => ?_) (fun hb => ?_)) <;> (try simp only [hb])) | (simp only [B, F, Nat.reduceLT, Nat.reduceLeDiff, Nat.reduceEqDiff, Nat.reduceAdd, Nat.reduceMul, Nat.reduceSub, ↓reduceIte, eq_self, t1, t2, t5, t6, k0, hlen, d1]))
    exact ⟨oo, gr.weak (by omega)⟩
def RefP (p : Nat → Prop) (h : H) (v : AV) (A : List Ch) : Prop := RefAt h v A ∧ ∀ y, v = .agg [y] → ∀ b, blkOf y = some b → p b
theorem RefP.keep0 {p : Nat → Prop} {h h' : H} {v : AV} {A : List Ch} (hr : RefP p h v A) (ho : Only h h' []) : RefP p h' v A := ⟨hr.1.keep ho, hr.2⟩
theorem RefP.keep {p : Nat → Prop} {h h' : H} {v : AV} {A : List Ch} (hr : RefP p h v A) {S : List Nat} (ho : Only h h' S) (hS : ∀ c, c ∈ S → ¬ p c) : RefP p h' v A := by
  obtain ⟨⟨s, rfl, hs, hn⟩, hp⟩ := hr
  exact ⟨⟨s, rfl, hs.only ho (fun b q hb => hS b hb (hp s rfl b q)), hn⟩, hp⟩
theorem RefP.nil (p : Nat → Prop) (h : H) : RefP p h (.agg [.nilslice]) [] := ⟨RefAt.nil h, fun y e b q => by cases e; cases q⟩
def PostRE (p : Nat → Prop) (h : H) (A : List Ch) (e : Nat) (v : AV) (h' : H) : Prop := Only h h' [] ∧ ∃ g, v = .tuple [g, errV e] ∧ RefP p h' g A
def putA (A : List Ch) (r : Rv) : List Ch := if fitA A r then A ++ [nextA A r r.1 1] else A
def putAE (A : List Ch) (r : Rv) : Nat := if fitA A r then 0 else 2
def tombA (A : List Ch) (r : Rv) : List Ch := if fitA A r && opnA A then A ++ [⟨r, 0, 0, true⟩] else A
def tombAE (A : List Ch) (r : Rv) : Nat := if fitA A r then (if opnA A then 0 else 5) else 2
theorem boxes2 (h : H) (s : AV) (r : Rv) : ∃ h1, h1 = ((h.newCells 52 [s]).newCells 35 [.int .u64 (.ofNat r.1), .int .u64 (.ofNat r.2)]).newCells 52 [.nilslice] ∧ Only h h1 [] ∧ h1.nx = h.nx + 3 ∧ cellAt h1 h.nx 0 = some s ∧
    cellAt h1 (h.nx + 1) 0 = some (.int .u64 (.ofNat r.1)) ∧ cellAt h1 (h.nx + 1) 1 = some (.int .u64 (.ofNat r.2)) ∧ cellAt h1 (h.nx + 2) 0 = some .nilslice ∧ wrAt h1 (h.nx + 2) = true := by
  refine ⟨_, rfl, (((Only.refl _ _).new _ _).new _ _).new _ _, rfl, ?_, ?_, ?_, ?_, ?_⟩ <;> simp only [B, xB, F, Nat.reduceLT, Nat.reduceLeDiff, Nat.reduceEqDiff, Nat.reduceAdd, Nat.reduceMul, Nat.reduceSub, ↓reduceIte, eq_self]
theorem put_box {p : Nat → Prop} {h hX : H} {z y : AV} {B : List Ch} (o : Only h hX []) (hz : z = .agg [y]) (hr : RefP p hX z B) (hb : ∀ b, blkOf y = some b → b ≠ h.nx + 2) : Only h (hX.sts (h.nx + 2) 0 [y]) [] ∧ RefP p (hX.sts (h.nx + 2) 0 [y]) z B := by
  subst hz
  obtain ⟨⟨_, e, hs, hn⟩, hp⟩ := hr
  cases e
  exact ⟨o.sts (.inr (by omega)), ⟨y, rfl, hs.only (S := [h.nx + 2]) ((Only.refl _ _).sts (.inl (by simp))) (fun b q => by simpa using hb b q), hn⟩, hp⟩
theorem rTombC (p : Nat → Prop) (h : H) (v : AV) (A : List Ch) (r : Rv) (hp : ∀ b, h.nx ≤ b → p b) (hr : RefP p h v A) (hz : A.length ≤ 900) : PushC P (.enter 50 [v, rvA r] h) (PostRE p h (tombA A r) (tombAE A r)) := by
  have hr0 := hr
  obtain ⟨⟨s, rfl, hs, hn⟩, hpb⟩ := hr
  have hso := SliceAt.one hs
  have hsc := SliceAt.cells hs
  have e0 : rvA r = .agg [.int .u64 (.ofNat r.1), .int .u64 (.ofNat r.2)] := rfl
  rw [e0]
  refine pushC_of_codeW (fn := Try.f50) (c := bodyC Try.f50) Try.func50 rfl ?_
  show codeW P 50 19 none _ _ _ _ _
  refine codeW_root ?_
  repeat' (first | ((with_reducible show codeW _ _ _ _ (codeI _ _) _ _ _ _); first | (apply st_seq; exact rfl) | (refine st_reg ?_ rfl rfl ?_; exact rfl; (conv => arg 4; whnf); (conv => arg 3; whnf)) | (refine st_cond ?_ rfl ?_; exact rfl; (conv => arg 1; arg 2; whnf)) | (refine st_block ?_ rfl ?_; exact rfl; (conv => arg 9; arg 1; whnf)) | (apply st_skip; exact rfl) | (refine st_exit ?_ rfl ?_; exact rfl; (conv in exitId _ => whnf)) | (apply st_ret; exact rfl)) | ((with_reducible refine retW_intro rfl ?_); (conv => arg 2; whnf)) | ((with_reducible first | refine iB (fun hb => ?_) (fun hb => ?_) | refine gWt (fun hb => ?_) (fun hb => ?_) | refine gWf (fun hb => ?_) (fun hb => ?_)) <;> (try simp only [hb])) | (simp only [B, F, Nat.reduceLT, Nat.reduceLeDiff, Nat.reduceEqDiff, Nat.reduceAdd, Nat.reduceMul, Nat.reduceSub, ↓reduceIte, eq_self, hso]))
  obtain ⟨h1, h1e, o1, x1, k0, r0, r1, z0, zw⟩ := boxes2 h s r
  rw [← h1e]
  refine ((rFitsC h1 _ A r (hr0.1.keep o1) (by omega)).call P).mono P ?_
  rintro v h2 ⟨rfl, o2⟩
  have xo2 := o2.1
  first | replace k0 := kcell k0 o2 (by omega) (by simp) | replace k0 := kwr k0 o2 (by omega) (by simp)
  first | replace r0 := kcell r0 o2 (by omega) (by simp) | replace r0 := kwr r0 o2 (by omega) (by simp)
  first | replace r1 := kcell r1 o2 (by omega) (by simp) | replace r1 := kwr r1 o2 (by omega) (by simp)
  first | replace z0 := kcell z0 o2 (by omega) (by simp) | replace z0 := kwr z0 o2 (by omega) (by simp)
  first | replace zw := kcell zw o2 (by omega) (by simp) | replace zw := kwr zw o2 (by omega) (by simp)
  have oo := o1.t o2
  have hsb : ∀ b, blkOf s = some b → b ≠ h.nx + 2 := fun b q => by have := hs.blk b q; omega
  cases q : fitA A r with
  | false =>
    have e1 : tombA A r = A := by unfold tombA; rw [q]; rfl
    have e2 : tombAE A r = 2 := by unfold tombAE; rw [q]; rfl
    rw [e1, e2]
    unfold PostRE errV
    repeat' (first | ((with_reducible show codeW _ _ _ _ (codeI _ _) _ _ _ _); first | (apply st_seq; exact rfl) | (refine st_reg ?_ rfl rfl ?_; exact rfl; (conv => arg 4; whnf); (conv => arg 3; whnf)) | (refine st_cond ?_ rfl ?_; exact rfl; (conv => arg 1; arg 2; whnf)) | (refine st_block ?_ rfl ?_; exact rfl; (conv => arg 9; arg 1; whnf)) | (apply st_skip; exact rfl) | (refine st_exit ?_ rfl ?_; exact rfl; (conv in exitId _ => whnf)) | (apply st_ret; exact rfl)) | ((with_reducible refine retW_intro rfl ?_); (conv => arg 2; whnf)) | ((with_reducible first | refine iB (fun hb => ?_) (fun hb => ?_) | refine gWt (fun hb => ?_) (fun hb => ?_) | refine gWf (fun hb => ?_) (fun hb => ?_)) <;> (try simp only [hb])) | (simp only [B, F, Nat.reduceLT, Nat.reduceLeDiff, Nat.reduceEqDiff, Nat.reduceAdd, Nat.reduceMul, Nat.reduceSub, ↓reduceIte, eq_self, k0, z0, zw, put_sts, hso, hsc, cellAt_sts zw]))
    obtain ⟨f1, f2⟩ := put_box oo rfl (hr0.keep0 oo) hsb
    exact ⟨f1, _, rfl, f2⟩
  | true =>
    repeat' (first | ((with_reducible show codeW _ _ _ _ (codeI _ _) _ _ _ _); first | (apply st_seq; exact rfl) | (refine st_reg ?_ rfl rfl ?_; exact rfl; (conv => arg 4; whnf); (conv => arg 3; whnf)) | (refine st_cond ?_ rfl ?_; exact rfl; (conv => arg 1; arg 2; whnf)) | (refine st_block ?_ rfl ?_; exact rfl; (conv => arg 9; arg 1; whnf)) | (apply st_skip; exact rfl) | (refine st_exit ?_ rfl ?_; exact rfl; (conv in exitId _ => whnf)) | (apply st_ret; exact rfl)) | ((with_reducible refine retW_intro rfl ?_); (conv => arg 2; whnf)) | ((with_reducible first | refine iB (fun hb => ?_) (fun hb => ?_) | refine gWt (fun hb => ?_) (fun hb => ?_) | refine gWf (fun hb => ?_) (fun hb => ?_)) <;> (try simp only [hb])) | (simp only [B, F, Nat.reduceLT, Nat.reduceLeDiff, Nat.reduceEqDiff, Nat.reduceAdd, Nat.reduceMul, Nat.reduceSub, ↓reduceIte, eq_self, k0, z0, zw]))
    refine ((rOpenC h2 _ A (hr0.1.keep oo) (by omega)).call P).mono P ?_
    rintro v h3 ⟨rfl, o3⟩
    have xo3 := o3.1
    first | replace k0 := kcell k0 o3 (by omega) (by simp) | replace k0 := kwr k0 o3 (by omega) (by simp)
    first | replace r0 := kcell r0 o3 (by omega) (by simp) | replace r0 := kwr r0 o3 (by omega) (by simp)
    first | replace r1 := kcell r1 o3 (by omega) (by simp) | replace r1 := kwr r1 o3 (by omega) (by simp)
    first | replace z0 := kcell z0 o3 (by omega) (by simp) | replace z0 := kwr z0 o3 (by omega) (by simp)
    first | replace zw := kcell zw o3 (by omega) (by simp) | replace zw := kwr zw o3 (by omega) (by simp)
    have oo3 := oo.t o3
    cases q2 : opnA A with
    | false =>
      have e1 : tombA A r = A := by unfold tombA; rw [q, q2]; rfl
      have e2 : tombAE A r = 5 := by unfold tombAE; rw [q, q2]; rfl
      rw [e1, e2]
      unfold PostRE errV
      repeat' (first | ((with_reducible show codeW _ _ _ _ (codeI _ _) _ _ _ _); first | (apply st_seq; exact rfl) | (refine st_reg ?_ rfl rfl ?_; exact rfl; (conv => arg 4; whnf); (conv => arg 3; whnf)) | (refine st_cond ?_ rfl ?_; exact rfl; (conv => arg 1; arg 2; whnf)) | (refine st_block ?_ rfl ?_; exact rfl; (conv => arg 9; arg 1; whnf)) | (apply st_skip; exact rfl) | (refine st_exit ?_ rfl ?_; exact rfl; (conv in exitId _ => whnf)) | (apply st_ret; exact rfl)) | ((with_reducible refine retW_intro rfl ?_); (conv => arg 2; whnf)) | ((with_reducible first | refine iB (fun hb => ?_) (fun hb => ?_) | refine gWt (fun hb => ?_) (fun hb => ?_) | refine gWf (fun hb => ?_) (fun hb => ?_)) <;> (try simp only [hb])) | (simp only [B, F, Nat.reduceLT, Nat.reduceLeDiff, Nat.reduceEqDiff, Nat.reduceAdd, Nat.reduceMul, Nat.reduceSub, ↓reduceIte, eq_self, k0, z0, zw, put_sts, hso, hsc, cellAt_sts zw]))
      obtain ⟨f1, f2⟩ := put_box oo3 rfl (hr0.keep0 oo3) hsb
      exact ⟨f1, _, rfl, f2⟩
    | true =>
      have e1 : tombA A r = A ++ [⟨r, 0, 0, true⟩] := by unfold tombA; rw [q, q2]; rfl
      have e2 : tombAE A r = 0 := by unfold tombAE; rw [q, q2]; rfl
      rw [e1, e2]
      unfold PostRE errV
      repeat' (first | ((with_reducible show codeW _ _ _ _ (codeI _ _) _ _ _ _); first | (apply st_seq; exact rfl) | (refine st_reg ?_ rfl rfl ?_; exact rfl; (conv => arg 4; whnf); (conv => arg 3; whnf)) | (refine st_cond ?_ rfl ?_; exact rfl; (conv => arg 1; arg 2; whnf)) | (refine st_block ?_ rfl ?_; exact rfl; (conv => arg 9; arg 1; whnf)) | (apply st_skip; exact rfl) | (refine st_exit ?_ rfl ?_; exact rfl; (conv in exitId _ => whnf)) | (apply st_ret; exact rfl)) | ((with_reducible refine retW_intro rfl ?_); (conv => arg 2; whnf)) | ((with_reducible first | refine iB (fun hb => ?_) (fun hb => ?_) | refine gWt (fun hb => ?_) (fun hb => ?_) | refine gWf (fun hb => ?_) (fun hb => ?_)) <;> (try simp only [hb])) | (simp only [B, F, Nat.reduceLT, Nat.reduceLeDiff, Nat.reduceEqDiff, Nat.reduceAdd, Nat.reduceMul, Nat.reduceSub, ↓reduceIte, eq_self, k0, r0, r1]))
      refine ((rWithC h3 _ A ⟨r, 0, 0, true⟩ (hr0.1.keep oo3) (by omega)).call P).mono P ?_
      rintro v h4 ⟨o4, hr4, hb4⟩
      obtain ⟨y, rfl, hyo, hyc⟩ := hr4.val
      have xo4 := o4.1
      first | replace z0 := kcell z0 o4 (by omega) (by simp) | replace z0 := kwr z0 o4 (by omega) (by simp)
      first | replace zw := kcell zw o4 (by omega) (by simp) | replace zw := kwr zw o4 (by omega) (by simp)
      repeat' (first | ((with_reducible show codeW _ _ _ _ (codeI _ _) _ _ _ _); first | (apply st_seq; exact rfl) | (refine st_reg ?_ rfl rfl ?_; exact rfl; (conv => arg 4; whnf); (conv => arg 3; whnf)) | (refine st_cond ?_ rfl ?_; exact rfl; (conv => arg 1; arg 2; whnf)) | (refine st_block ?_ rfl ?_; exact rfl; (conv => arg 9; arg 1; whnf)) | (apply st_skip; exact rfl) | (refine st_exit ?_ rfl ?_; exact rfl; (conv in exitId _ => whnf)) | (apply st_ret; exact rfl)) | ((with_reducible refine retW_intro rfl ?_); (conv => arg 2; whnf)) | ((with_reducible first | refine iB (fun hb => ?_) (fun hb => ?_) | refine gWt (fun hb => ?_) (fun hb => ?_) | refine gWf (fun hb => ?_) (fun hb => ?_)) <;> (try simp only [hb])) | (simp only [B, F, Nat.reduceLT, Nat.reduceLeDiff, Nat.reduceEqDiff, Nat.reduceAdd, Nat.reduceMul, Nat.reduceSub, ↓reduceIte, eq_self, z0, zw, put_sts, hyo, hyc, cellAt_sts zw]))
      obtain ⟨f1, f2⟩ := put_box (p := p) (oo3.t o4) rfl ⟨hr4, fun y e b q => hp b (by have := hb4 y e b q; omega)⟩ (fun b q => by have := hb4 y rfl b q; omega)
      exact ⟨f1, _, rfl, f2⟩
theorem rPutC (p : Nat → Prop) (h : H) (v : AV) (A : List Ch) (r : Rv) (hp : ∀ b, h.nx ≤ b → p b) (hr : RefP p h v A) (hz : A.length ≤ 900) (hr1 : r.1 < M64) : PushC P (.enter 53 [v, rvA r] h) (PostRE p h (putA A r) (putAE A r)) := by
  have hr0 := hr
  obtain ⟨⟨s, rfl, hs, hn⟩, hpb⟩ := hr
  have hso := SliceAt.one hs
  have hsc := SliceAt.cells hs
  have hlen := hs.len (P := P) u50
  have e0 : rvA r = .agg [.int .u64 (.ofNat r.1), .int .u64 (.ofNat r.2)] := rfl
  rw [e0]
  refine pushC_of_codeW (fn := Try.f53) (c := bodyC Try.f53) Try.func53 rfl ?_
  show codeW P 53 37 none _ _ _ _ _
  refine codeW_root ?_
  repeat' (first | ((with_reducible show codeW _ _ _ _ (codeI _ _) _ _ _ _); first | (apply st_seq; exact rfl) | (refine st_reg ?_ rfl rfl ?_; exact rfl; (conv => arg 4; whnf); (conv => arg 3; whnf)) | (refine st_cond ?_ rfl ?_; exact rfl; (conv => arg 1; arg 2; whnf)) | (refine st_block ?_ rfl ?_; exact rfl; (conv => arg 9; arg 1; whnf)) | (apply st_skip; exact rfl) | (refine st_exit ?_ rfl ?_; exact rfl; (conv in exitId _ => whnf)) | (apply st_ret; exact rfl)) | ((with_reducible refine retW_intro rfl ?_); (conv => arg 2; whnf)) | ((with_reducible first | refine iB (fun hb => ?_) (fun hb => ?_) | refine gWt (fun hb => ?_) (fun hb => ?_) | refine gWf (fun hb => ?_) (fun hb => ?_)) <;> (try simp only [hb])) | (simp only [B, F, Nat.reduceLT, Nat.reduceLeDiff, Nat.reduceEqDiff, Nat.reduceAdd, Nat.reduceMul, Nat.reduceSub, ↓reduceIte, eq_self, hso]))
  obtain ⟨h1, h1e, o1, x1, k0, r0, r1, z0, zw⟩ := boxes2 h s r
  rw [← h1e]
  refine ((rFitsC h1 _ A r (hr0.1.keep o1) (by omega)).call P).mono P ?_
  rintro v h2 ⟨rfl, o2⟩
  have xo2 := o2.1
  first | replace k0 := kcell k0 o2 (by omega) (by simp) | replace k0 := kwr k0 o2 (by omega) (by simp)
  first | replace r0 := kcell r0 o2 (by omega) (by simp) | replace r0 := kwr r0 o2 (by omega) (by simp)
  first | replace r1 := kcell r1 o2 (by omega) (by simp) | replace r1 := kwr r1 o2 (by omega) (by simp)
  first | replace z0 := kcell z0 o2 (by omega) (by simp) | replace z0 := kwr z0 o2 (by omega) (by simp)
  first | replace zw := kcell zw o2 (by omega) (by simp) | replace zw := kwr zw o2 (by omega) (by simp)
  have oo := o1.t o2
  have hsb : ∀ b, blkOf s = some b → b ≠ h.nx + 2 := fun b q => by have := hs.blk b q; omega
  cases q : fitA A r with
  | false =>
    have e1 : putA A r = A := by unfold putA; rw [q]; rfl
    have e2 : putAE A r = 2 := by unfold putAE; rw [q]; rfl
    rw [e1, e2]
    unfold PostRE errV
    repeat' (first | ((with_reducible show codeW _ _ _ _ (codeI _ _) _ _ _ _); first | (apply st_seq; exact rfl) | (refine st_reg ?_ rfl rfl ?_; exact rfl; (conv => arg 4; whnf); (conv => arg 3; whnf)) | (refine st_cond ?_ rfl ?_; exact rfl; (conv => arg 1; arg 2; whnf)) | (refine st_block ?_ rfl ?_; exact rfl; (conv => arg 9; arg 1; whnf)) | (apply st_skip; exact rfl) | (refine st_exit ?_ rfl ?_; exact rfl; (conv in exitId _ => whnf)) | (apply st_ret; exact rfl)) | ((with_reducible refine retW_intro rfl ?_); (conv => arg 2; whnf)) | ((with_reducible first | refine iB (fun hb => ?_) (fun hb => ?_) | refine gWt (fun hb => ?_) (fun hb => ?_) | refine gWf (fun hb => ?_) (fun hb => ?_)) <;> (try simp only [hb])) | (simp only [B, F, Nat.reduceLT, Nat.reduceLeDiff, Nat.reduceEqDiff, Nat.reduceAdd, Nat.reduceMul, Nat.reduceSub, ↓reduceIte, eq_self, k0, z0, zw, put_sts, hso, hsc, cellAt_sts zw]))
    obtain ⟨f1, f2⟩ := put_box oo rfl (hr0.keep0 oo) hsb
    exact ⟨f1, _, rfl, f2⟩
  | true =>
    repeat' (first | ((with_reducible show codeW _ _ _ _ (codeI _ _) _ _ _ _); first | (apply st_seq; exact rfl) | (refine st_reg ?_ rfl rfl ?_; exact rfl; (conv => arg 4; whnf); (conv => arg 3; whnf)) | (refine st_cond ?_ rfl ?_; exact rfl; (conv => arg 1; arg 2; whnf)) | (refine st_block ?_ rfl ?_; exact rfl; (conv => arg 9; arg 1; whnf)) | (apply st_skip; exact rfl) | (refine st_exit ?_ rfl ?_; exact rfl; (conv in exitId _ => whnf)) | (apply st_ret; exact rfl)) | ((with_reducible refine retW_intro rfl ?_); (conv => arg 2; whnf)) | ((with_reducible first | refine iB (fun hb => ?_) (fun hb => ?_) | refine gWt (fun hb => ?_) (fun hb => ?_) | refine gWf (fun hb => ?_) (fun hb => ?_)) <;> (try simp only [hb])) | (simp only [B, F, Nat.reduceLT, Nat.reduceLeDiff, Nat.reduceEqDiff, Nat.reduceAdd, Nat.reduceMul, Nat.reduceSub, ↓reduceIte, eq_self, k0, z0, zw]))
    refine ((rOpenC h2 _ A (hr0.1.keep oo) (by omega)).call P).mono P ?_
    rintro v h3 ⟨rfl, o3⟩
    have xo3 := o3.1
    first | replace k0 := kcell k0 o3 (by omega) (by simp) | replace k0 := kwr k0 o3 (by omega) (by simp)
    first | replace r0 := kcell r0 o3 (by omega) (by simp) | replace r0 := kwr r0 o3 (by omega) (by simp)
    first | replace r1 := kcell r1 o3 (by omega) (by simp) | replace r1 := kwr r1 o3 (by omega) (by simp)
    first | replace z0 := kcell z0 o3 (by omega) (by simp) | replace z0 := kwr z0 o3 (by omega) (by simp)
    first | replace zw := kcell zw o3 (by omega) (by simp) | replace zw := kwr zw o3 (by omega) (by simp)
    have oo3 := oo.t o3
    have e2 : putAE A r = 0 := by unfold putAE; rw [q]; rfl
    have e1 : putA A r = A ++ [nextA A r r.1 1] := by unfold putA; rw [q]; rfl
    rw [e1, e2]
    unfold PostRE errV
    cases q2 : opnA A with
    | false =>
      have e3 : nextA A r r.1 1 = ⟨r, r.1, 1, false⟩ := by
        unfold opnA at q2; unfold nextA
        cases hl : A.getLast? with
        | none => rfl
        | some c => rw [hl] at q2; have : c.tomb = true := by simpa using q2
                    simp only [this, if_true]; rfl
      rw [e3]
      repeat' (first | ((with_reducible show codeW _ _ _ _ (codeI _ _) _ _ _ _); first | (apply st_seq; exact rfl) | (refine st_reg ?_ rfl rfl ?_; exact rfl; (conv => arg 4; whnf); (conv => arg 3; whnf)) | (refine st_cond ?_ rfl ?_; exact rfl; (conv => arg 1; arg 2; whnf)) | (refine st_block ?_ rfl ?_; exact rfl; (conv => arg 9; arg 1; whnf)) | (apply st_skip; exact rfl) | (refine st_exit ?_ rfl ?_; exact rfl; (conv in exitId _ => whnf)) | (apply st_ret; exact rfl)) | ((with_reducible refine retW_intro rfl ?_); (conv => arg 2; whnf)) | ((with_reducible first | refine iB (fun hb => ?_) (fun hb => ?_) | refine gWt (fun hb => ?_) (fun hb => ?_) | refine gWf (fun hb => ?_) (fun hb => ?_)) <;> (try simp only [hb])) | (simp only [B, F, Nat.reduceLT, Nat.reduceLeDiff, Nat.reduceEqDiff, Nat.reduceAdd, Nat.reduceMul, Nat.reduceSub, ↓reduceIte, eq_self, k0, r0, r1]))
      refine ((rWithC h3 _ A ⟨r, r.1, 1, false⟩ (hr0.1.keep oo3) (by omega)).call P).mono P ?_
      rintro v h4 ⟨o4, hr4, hb4⟩
      obtain ⟨y, rfl, hyo, hyc⟩ := hr4.val
      have xo4 := o4.1
      first | replace z0 := kcell z0 o4 (by omega) (by simp) | replace z0 := kwr z0 o4 (by omega) (by simp)
      first | replace zw := kcell zw o4 (by omega) (by simp) | replace zw := kwr zw o4 (by omega) (by simp)
      repeat' (first | ((with_reducible show codeW _ _ _ _ (codeI _ _) _ _ _ _); first | (apply st_seq; exact rfl) | (refine st_reg ?_ rfl rfl ?_; exact rfl; (conv => arg 4; whnf); (conv => arg 3; whnf)) | (refine st_cond ?_ rfl ?_; exact rfl; (conv => arg 1; arg 2; whnf)) | (refine st_block ?_ rfl ?_; exact rfl; (conv => arg 9; arg 1; whnf)) | (apply st_skip; exact rfl) | (refine st_exit ?_ rfl ?_; exact rfl; (conv in exitId _ => whnf)) | (apply st_ret; exact rfl)) | ((with_reducible refine retW_intro rfl ?_); (conv => arg 2; whnf)) | ((with_reducible first | refine iB (fun hb => ?_) (fun hb => ?_) | refine gWt (fun hb => ?_) (fun hb => ?_) | refine gWf (fun hb => ?_) (fun hb => ?_)) <;> (try simp only [hb])) | (simp only [B, F, Nat.reduceLT, Nat.reduceLeDiff, Nat.reduceEqDiff, Nat.reduceAdd, Nat.reduceMul, Nat.reduceSub, ↓reduceIte, eq_self, z0, zw, put_sts, hyo, hyc, cellAt_sts zw]))
      obtain ⟨f1, f2⟩ := put_box (p := p) (oo3.t o4) rfl ⟨hr4, fun y e b q => hp b (by have := hb4 y e b q; omega)⟩ (fun b q => by have := hb4 y rfl b q; omega)
      exact ⟨f1, _, rfl, f2⟩
    | true =>
      have hA : A ≠ [] := by rintro rfl; cases q2
      obtain ⟨b, o, cap, c, rfl, hb, hl, hx, w1, lt1, dp, d0⟩ := ref_last hs hA (by omega)
      obtain ⟨p0, p1, p2, p3, p4⟩ := rcC_at (hs.only oo3 (fun _ _ => by simp)) hx
      have ht : c.tomb = false := by unfold opnA at q2; rw [hl] at q2; simpa using q2
      have e3 : nextA A r r.1 1 = ⟨r, c.made, (c.nth + 1) % M64, false⟩ := by unfold nextA; rw [hl]; simp [ht]
      rw [e3]
      obtain ⟨h5, h5e⟩ : ∃ h5, h5 = (h3.newCells 125 [.int .u64 (.ofNat 0), .int .u64 (.ofNat 0), .bool false, .int .u64 (.ofNat 0), .int .u64 (.ofNat 0)]).sts h3.nx 0 (rcC c) := ⟨_, rfl⟩
      unfold rcC at h5e
      rw [ht] at p2 h5e
      have o5 : Only h3 h5 [] := by rw [h5e]; exact ((Only.refl _ _).new _ _).sts (.inr (Nat.le_refl _))
      have i3 : cellAt h5 h3.nx 3 = some (.int .u64 (.ofNat c.made)) := by rw [h5e]; simp only [B, F, Nat.reduceLT, Nat.reduceLeDiff, Nat.reduceEqDiff, Nat.reduceAdd, Nat.reduceMul, Nat.reduceSub, ↓reduceIte, eq_self]
      have i4 : cellAt h5 h3.nx 4 = some (.int .u64 (.ofNat c.nth)) := by rw [h5e]; simp only [B, F, Nat.reduceLT, Nat.reduceLeDiff, Nat.reduceEqDiff, Nat.reduceAdd, Nat.reduceMul, Nat.reduceSub, ↓reduceIte, eq_self]
      have oo5 := oo3.t o5
      have nb : (b = h3.nx) = False := by simp; have := oo3.1; omega
      have k03 := k0
      have xo5 := o5.1
      first | replace k0 := kcell k0 o5 (by omega) (by simp) | replace k0 := kwr k0 o5 (by omega) (by simp)
      first | replace r0 := kcell r0 o5 (by omega) (by simp) | replace r0 := kwr r0 o5 (by omega) (by simp)
      first | replace r1 := kcell r1 o5 (by omega) (by simp) | replace r1 := kwr r1 o5 (by omega) (by simp)
      first | replace z0 := kcell z0 o5 (by omega) (by simp) | replace z0 := kwr z0 o5 (by omega) (by simp)
      first | replace zw := kcell zw o5 (by omega) (by simp) | replace zw := kwr zw o5 (by omega) (by simp)
      repeat' (first | ((with_reducible show codeW _ _ _ _ (codeI _ _) _ _ _ _); first | (apply st_seq; exact rfl) | (refine st_reg ?_ rfl rfl ?_; exact rfl; (conv => arg 4; whnf); (conv => arg 3; whnf)) | (refine st_cond ?_ rfl ?_; exact rfl; (conv => arg 1; arg 2; whnf)) | (refine st_block ?_ rfl ?_; exact rfl; (conv => arg 9; arg 1; whnf)) | (apply st_skip; exact rfl) | (refine st_exit ?_ rfl ?_; exact rfl; (conv in exitId _ => whnf)) | (apply st_ret; exact rfl)) | ((with_reducible refine retW_intro rfl ?_); (conv => arg 2; whnf)) | ((with_reducible first | refine iB (fun hb => ?_) (fun hb => ?_) | refine gWt (fun hb => ?_) (fun hb => ?_) | refine gWf (fun hb => ?_) (fun hb => ?_)) <;> (try simp only [hb])) | (simp only [B, F, Nat.reduceLT, Nat.reduceLeDiff, Nat.reduceEqDiff, Nat.reduceAdd, Nat.reduceMul, Nat.reduceSub, ↓reduceIte, eq_self, k03, hlen, w1, lt1, nb, p0, p1, p2, p3, p4, ← h5e, k0, r0, r1, i3, i4, u64_mod]))
      refine ((rWithC h5 _ A ⟨r, c.made, (c.nth + 1) % M64, false⟩ (hr0.1.keep oo5) (by omega)).call P).mono P ?_
      rintro v h4 ⟨o4, hr4, hb4⟩
      obtain ⟨y, rfl, hyo, hyc⟩ := hr4.val
      have xo4 := o4.1
      first | replace z0 := kcell z0 o4 (by omega) (by simp) | replace z0 := kwr z0 o4 (by omega) (by simp)
      first | replace zw := kcell zw o4 (by omega) (by simp) | replace zw := kwr zw o4 (by omega) (by simp)
      repeat' (first | ((with_reducible show codeW _ _ _ _ (codeI _ _) _ _ _ _); first | (apply st_seq; exact rfl) | (refine st_reg ?_ rfl rfl ?_; exact rfl; (conv => arg 4; whnf); (conv => arg 3; whnf)) | (refine st_cond ?_ rfl ?_; exact rfl; (conv => arg 1; arg 2; whnf)) | (refine st_block ?_ rfl ?_; exact rfl; (conv => arg 9; arg 1; whnf)) | (apply st_skip; exact rfl) | (refine st_exit ?_ rfl ?_; exact rfl; (conv in exitId _ => whnf)) | (apply st_ret; exact rfl)) | ((with_reducible refine retW_intro rfl ?_); (conv => arg 2; whnf)) | ((with_reducible first | refine iB (fun hb => ?_) (fun hb => ?_) | refine gWt (fun hb => ?_) (fun hb => ?_) | refine gWf (fun hb => ?_) (fun hb => ?_)) <;> (try simp only [hb])) | (simp only [B, F, Nat.reduceLT, Nat.reduceLeDiff, Nat.reduceEqDiff, Nat.reduceAdd, Nat.reduceMul, Nat.reduceSub, ↓reduceIte, eq_self, z0, zw, put_sts, hyo, hyc, cellAt_sts zw]))
      obtain ⟨f1, f2⟩ := put_box (p := p) (oo5.t o4) rfl ⟨hr4, fun y e b q => hp b (by have := hb4 y e b q; omega)⟩ (fun b q => by have := hb4 y rfl b q; omega)
      exact ⟨f1, _, rfl, f2⟩
end
end Go.Proofs.Ytlkngpckibidlaa.W

namespace Go.Proofs.Ytlkngpckibidlaa.W
open Go Go.AX
noncomputable section
set_option maxRecDepth 100000
def restAP (A : List Ch) (r : Rv) (made nth : Nat) : List Ch := if restA A r made nth then A ++ [nextA A r made nth] else A
def restAE (A : List Ch) (r : Rv) (made nth : Nat) : Nat := if restA A r made nth then 0 else 2
theorem restA_next {A : List Ch} {r : Rv} {made nth : Nat} (h : restA A r made nth = true) (hn : nth < M64) : nextA A r made nth = ⟨r, made, nth, false⟩ := by
  unfold restA at h
  unfold nextA
  simp only [Bool.and_eq_true] at h
  have h5 := h.2
  cases hl : A.getLast? with
  | none => rw [Nat.mod_eq_of_lt hn]
  | some c =>
    rw [hl] at h5
    simp only at h5 ⊢
    cases ht : c.tomb with
    | true => rw [if_pos rfl, Nat.mod_eq_of_lt hn]
    | false =>
      rw [ht, if_neg (by simp), Bool.and_eq_true, decide_eq_true_eq, decide_eq_true_eq] at h5
      rw [if_neg (by simp), h5.1, ← h5.2]
theorem rRestC (p : Nat → Prop) (h : H) (v : AV) (A : List Ch) (r : Rv) (made nth : Nat) (hp : ∀ b, h.nx ≤ b → p b) (hr : RefP p h v A) (hz : A.length ≤ 900) (hnth : nth < M64) :
    PushC P (.enter 51 [v, rvA r, n64 made, n64 nth] h) (PostRE p h (restAP A r made nth) (restAE A r made nth)) := by
  have hr0 := hr
  obtain ⟨⟨s, rfl, hs, hn⟩, hpb⟩ := hr
  have hso := SliceAt.one hs
  have hsc := SliceAt.cells hs
  have hlen := hs.len (P := P) u50
  have e0 : rvA r = .agg [.int .u64 (.ofNat r.1), .int .u64 (.ofNat r.2)] := rfl
  rw [e0]
  unfold n64
  refine pushC_of_codeW (fn := Try.f51) (c := bodyC Try.f51) Try.func51 rfl ?_
  show codeW P 51 77 none _ _ _ _ _
  refine codeW_root ?_
  repeat' (first | ((with_reducible show codeW _ _ _ _ (codeI _ _) _ _ _ _); first | (apply st_seq; exact rfl) | (refine st_reg ?_ rfl rfl ?_; exact rfl; (conv => arg 4; whnf); (conv => arg 3; whnf)) | (refine st_cond ?_ rfl ?_; exact rfl; (conv => arg 1; arg 2; whnf)) | (refine st_block ?_ rfl ?_; exact rfl; (conv => arg 9; arg 1; whnf)) | (apply st_skip; exact rfl) | (refine st_exit ?_ rfl ?_; exact rfl; (conv in exitId _ => whnf)) | (apply st_ret; exact rfl)) | ((with_reducible refine retW_intro rfl ?_); (conv => arg 2; whnf)) | ((with_reducible first | refine iB (fun hb => ?_) (fun hb => ?_) | refine gWt (fun hb => ?_) (fun hb => ?_) | refine gWf (fun hb => ?_) (fun hb => ?_)) <;> (try simp only [hb])) | (simp only [B, F, Nat.reduceLT, Nat.reduceLeDiff, Nat.reduceEqDiff, Nat.reduceAdd, Nat.reduceMul, Nat.reduceSub, ↓reduceIte, eq_self, hso]))
  obtain ⟨h1, h1e, o1, x1, k0, r0, r1, z0, zw⟩ := boxes2 h s r
  rw [← h1e]
  refine ((rFitsC h1 _ A r (hr0.1.keep o1) (by omega)).call P).mono P ?_
  rintro v h2 ⟨rfl, o2⟩
  have xo2 := o2.1
  first | replace k0 := kcell k0 o2 (by omega) (by simp) | replace k0 := kwr k0 o2 (by omega) (by simp)
  first | replace r0 := kcell r0 o2 (by omega) (by simp) | replace r0 := kwr r0 o2 (by omega) (by simp)
  first | replace r1 := kcell r1 o2 (by omega) (by simp) | replace r1 := kwr r1 o2 (by omega) (by simp)
  first | replace z0 := kcell z0 o2 (by omega) (by simp) | replace z0 := kwr z0 o2 (by omega) (by simp)
  first | replace zw := kcell zw o2 (by omega) (by simp) | replace zw := kwr zw o2 (by omega) (by simp)
  have oo := o1.t o2
  have hsb : ∀ b, blkOf s = some b → b ≠ h.nx + 2 := fun b q => by have := hs.blk b q; omega
  have no : ∀ {x}, restA A r made nth = x → x = false → restAP A r made nth = A ∧ restAE A r made nth = 2 := fun e q => by unfold restAP restAE; rw [e, q]; exact ⟨rfl, rfl⟩
  have f0 := put_box (p := p) oo rfl (hr0.keep0 oo) hsb
  by_cases hq : (fitA A r && !decide (made = 0) && !decide (r.1 < made) && !decide (nth = 0)) = true
  · have hq0 := hq
    simp only [Bool.and_eq_true, Bool.not_eq_true'] at hq
    obtain ⟨⟨⟨q1, q2⟩, q3⟩, q4⟩ := hq
    rw [q1]
    repeat' (first | ((with_reducible show codeW _ _ _ _ (codeI _ _) _ _ _ _); first | (apply st_seq; exact rfl) | (refine st_reg ?_ rfl rfl ?_; exact rfl; (conv => arg 4; whnf); (conv => arg 3; whnf)) | (refine st_cond ?_ rfl ?_; exact rfl; (conv => arg 1; arg 2; whnf)) | (refine st_block ?_ rfl ?_; exact rfl; (conv => arg 9; arg 1; whnf)) | (apply st_skip; exact rfl) | (refine st_exit ?_ rfl ?_; exact rfl; (conv in exitId _ => whnf)) | (apply st_ret; exact rfl)) | ((with_reducible refine retW_intro rfl ?_); (conv => arg 2; whnf)) | ((with_reducible first | refine iB (fun hb => ?_) (fun hb => ?_) | refine gWt (fun hb => ?_) (fun hb => ?_) | refine gWf (fun hb => ?_) (fun hb => ?_)) <;> (try simp only [hb])) | (simp only [B, F, Nat.reduceLT, Nat.reduceLeDiff, Nat.reduceEqDiff, Nat.reduceAdd, Nat.reduceMul, Nat.reduceSub, ↓reduceIte, eq_self, k0, r0, q2, q3, q4, Bool.not_true, Bool.not_false]))
    refine ((rOpenC h2 _ A (hr0.1.keep oo) (by omega)).call P).mono P ?_
    rintro v h3 ⟨rfl, o3⟩
    have xo3 := o3.1
    first | replace k0 := kcell k0 o3 (by omega) (by simp) | replace k0 := kwr k0 o3 (by omega) (by simp)
    first | replace r0 := kcell r0 o3 (by omega) (by simp) | replace r0 := kwr r0 o3 (by omega) (by simp)
    first | replace r1 := kcell r1 o3 (by omega) (by simp) | replace r1 := kwr r1 o3 (by omega) (by simp)
    first | replace z0 := kcell z0 o3 (by omega) (by simp) | replace z0 := kwr z0 o3 (by omega) (by simp)
    first | replace zw := kcell zw o3 (by omega) (by simp) | replace zw := kwr zw o3 (by omega) (by simp)
    have oo3 := oo.t o3
    have f3 := put_box (p := p) oo3 rfl (hr0.keep0 oo3) hsb
    have hres : restA A r made nth = (match A.getLast? with | none => true | some c => if c.tomb then decide (c.rev.1 < made) else decide (made = c.made) && decide (nth = (c.nth + 1) % M64)) := by
      unfold restA; rw [hq0, Bool.true_and]; rfl
    -- what is put
    have fin : ∀ (hX : H), Only h hX [] → restA A r made nth = true → Only h hX [] ∧ restAP A r made nth = A ++ [⟨r, made, nth, false⟩] ∧ restAE A r made nth = 0 := fun hX o q => ⟨o, by unfold restAP; rw [q, if_pos rfl, restA_next q hnth], by unfold restAE; rw [q]; rfl⟩
    by_cases hA : A = []
    · subst hA
      have q5 : opnA [] = false := rfl
      have d0 : decide (0 < ([] : List Ch).length) = false := rfl
      obtain ⟨-, e1, e2⟩ := fin h3 oo3 (by rw [hres]; rfl)
      rw [q5, e1, e2]
      unfold PostRE errV
      repeat' (first | ((with_reducible show codeW _ _ _ _ (codeI _ _) _ _ _ _); first | (apply st_seq; exact rfl) | (refine st_reg ?_ rfl rfl ?_; exact rfl; (conv => arg 4; whnf); (conv => arg 3; whnf)) | (refine st_cond ?_ rfl ?_; exact rfl; (conv => arg 1; arg 2; whnf)) | (refine st_block ?_ rfl ?_; exact rfl; (conv => arg 9; arg 1; whnf)) | (apply st_skip; exact rfl) | (refine st_exit ?_ rfl ?_; exact rfl; (conv in exitId _ => whnf)) | (apply st_ret; exact rfl)) | ((with_reducible refine retW_intro rfl ?_); (conv => arg 2; whnf)) | ((with_reducible first | refine iB (fun hb => ?_) (fun hb => ?_) | refine gWt (fun hb => ?_) (fun hb => ?_) | refine gWf (fun hb => ?_) (fun hb => ?_)) <;> (try simp only [hb])) | (simp only [B, F, Nat.reduceLT, Nat.reduceLeDiff, Nat.reduceEqDiff, Nat.reduceAdd, Nat.reduceMul, Nat.reduceSub, ↓reduceIte, eq_self, k0, r0, r1, hlen, d0]))
      refine ((rWithC h3 _ [] ⟨r, made, nth, false⟩ (hr0.1.keep oo3) (by simp)).call P).mono P ?_
      rintro v h4 ⟨o4, hr4, hb4⟩
      obtain ⟨y, rfl, hyo, hyc⟩ := hr4.val
      have xo4 := o4.1
      first | replace z0 := kcell z0 o4 (by omega) (by simp) | replace z0 := kwr z0 o4 (by omega) (by simp)
      first | replace zw := kcell zw o4 (by omega) (by simp) | replace zw := kwr zw o4 (by omega) (by simp)
      repeat' (first | ((with_reducible show codeW _ _ _ _ (codeI _ _) _ _ _ _); first | (apply st_seq; exact rfl) | (refine st_reg ?_ rfl rfl ?_; exact rfl; (conv => arg 4; whnf); (conv => arg 3; whnf)) | (refine st_cond ?_ rfl ?_; exact rfl; (conv => arg 1; arg 2; whnf)) | (refine st_block ?_ rfl ?_; exact rfl; (conv => arg 9; arg 1; whnf)) | (apply st_skip; exact rfl) | (refine st_exit ?_ rfl ?_; exact rfl; (conv in exitId _ => whnf)) | (apply st_ret; exact rfl)) | ((with_reducible refine retW_intro rfl ?_); (conv => arg 2; whnf)) | ((with_reducible first | refine iB (fun hb => ?_) (fun hb => ?_) | refine gWt (fun hb => ?_) (fun hb => ?_) | refine gWf (fun hb => ?_) (fun hb => ?_)) <;> (try simp only [hb])) | (simp only [B, F, Nat.reduceLT, Nat.reduceLeDiff, Nat.reduceEqDiff, Nat.reduceAdd, Nat.reduceMul, Nat.reduceSub, ↓reduceIte, eq_self, z0, zw, put_sts, hyo, hyc, cellAt_sts zw]))
      obtain ⟨f1, f2⟩ := put_box (p := p) (oo3.t o4) rfl ⟨hr4, fun y e b q => hp b (by have := hb4 y e b q; omega)⟩ (fun b q => by have := hb4 y rfl b q; omega)
      exact ⟨f1, _, rfl, f2⟩
    · obtain ⟨b, o, cap, c, rfl, hb, hl, hx, w1, lt1, dp, d0⟩ := ref_last hs hA (by omega)
      obtain ⟨p0, p1, p2, p3, p4⟩ := rcC_at (hs.only oo3 (fun _ _ => by simp)) hx
      rw [hl] at hres
      simp only at hres
      have hop : opnA A = !c.tomb := by unfold opnA; rw [hl]
      cases ht : c.tomb with
      | true =>
        rw [ht, if_pos rfl] at hres
        rw [hop, ht]
        cases q5 : decide (made ≤ c.rev.1) with
        | true =>
          obtain ⟨e1, e2⟩ := no hres (decide_eq_false (by have := of_decide_eq_true q5; omega))
          rw [e1, e2]
          unfold PostRE errV
          repeat' (first | ((with_reducible show codeW _ _ _ _ (codeI _ _) _ _ _ _); first | (apply st_seq; exact rfl) | (refine st_reg ?_ rfl rfl ?_; exact rfl; (conv => arg 4; whnf); (conv => arg 3; whnf)) | (refine st_cond ?_ rfl ?_; exact rfl; (conv => arg 1; arg 2; whnf)) | (refine st_block ?_ rfl ?_; exact rfl; (conv => arg 9; arg 1; whnf)) | (apply st_skip; exact rfl) | (refine st_exit ?_ rfl ?_; exact rfl; (conv in exitId _ => whnf)) | (apply st_ret; exact rfl)) | ((with_reducible refine retW_intro rfl ?_); (conv => arg 2; whnf)) | ((with_reducible first | refine iB (fun hb => ?_) (fun hb => ?_) | refine gWt (fun hb => ?_) (fun hb => ?_) | refine gWf (fun hb => ?_) (fun hb => ?_)) <;> (try simp only [hb])) | (simp only [B, F, Nat.reduceLT, Nat.reduceLeDiff, Nat.reduceEqDiff, Nat.reduceAdd, Nat.reduceMul, Nat.reduceSub, ↓reduceIte, eq_self, k0, z0, zw, put_sts, hso, hsc, cellAt_sts zw, hlen, dp, w1, lt1, p0, q5, Bool.not_true]))
          exact ⟨f3.1, _, rfl, f3.2⟩
        | false =>
          obtain ⟨-, e1, e2⟩ := fin h3 oo3 (by rw [hres]; exact decide_eq_true (by have := of_decide_eq_false q5; omega))
          rw [e1, e2]
          unfold PostRE errV
          repeat' (first | ((with_reducible show codeW _ _ _ _ (codeI _ _) _ _ _ _); first | (apply st_seq; exact rfl) | (refine st_reg ?_ rfl rfl ?_; exact rfl; (conv => arg 4; whnf); (conv => arg 3; whnf)) | (refine st_cond ?_ rfl ?_; exact rfl; (conv => arg 1; arg 2; whnf)) | (refine st_block ?_ rfl ?_; exact rfl; (conv => arg 9; arg 1; whnf)) | (apply st_skip; exact rfl) | (refine st_exit ?_ rfl ?_; exact rfl; (conv in exitId _ => whnf)) | (apply st_ret; exact rfl)) | ((with_reducible refine retW_intro rfl ?_); (conv => arg 2; whnf)) | ((with_reducible first | refine iB (fun hb => ?_) (fun hb => ?_) | refine gWt (fun hb => ?_) (fun hb => ?_) | refine gWf (fun hb => ?_) (fun hb => ?_)) <;> (try simp only [hb])) | (simp only [B, F, Nat.reduceLT, Nat.reduceLeDiff, Nat.reduceEqDiff, Nat.reduceAdd, Nat.reduceMul, Nat.reduceSub, ↓reduceIte, eq_self, k0, r0, r1, hlen, dp, w1, lt1, p0, q5, Bool.not_true]))
          refine ((rWithC h3 _ A ⟨r, made, nth, false⟩ (hr0.1.keep oo3) (by omega)).call P).mono P ?_
          rintro v h4 ⟨o4, hr4, hb4⟩
          obtain ⟨y, rfl, hyo, hyc⟩ := hr4.val
          have xo4 := o4.1
          first | replace z0 := kcell z0 o4 (by omega) (by simp) | replace z0 := kwr z0 o4 (by omega) (by simp)
          first | replace zw := kcell zw o4 (by omega) (by simp) | replace zw := kwr zw o4 (by omega) (by simp)
          repeat' (first | ((with_reducible show codeW _ _ _ _ (codeI _ _) _ _ _ _); first | (apply st_seq; exact rfl) | (refine st_reg ?_ rfl rfl ?_; exact rfl; (conv => arg 4; whnf); (conv => arg 3; whnf)) | (refine st_cond ?_ rfl ?_; exact rfl; (conv => arg 1; arg 2; whnf)) | (refine st_block ?_ rfl ?_; exact rfl; (conv => arg 9; arg 1; whnf)) | (apply st_skip; exact rfl) | (refine st_exit ?_ rfl ?_; exact rfl; (conv in exitId _ => whnf)) | (apply st_ret; exact rfl)) | ((with_reducible refine retW_intro rfl ?_); (conv => arg 2; whnf)) | ((with_reducible first | refine iB (fun hb => ?_) (fun hb => ?_) | refine gWt (fun hb => ?_) (fun hb => ?_) | refine gWf (fun hb => ?_) (fun hb => ?_)) <;> (try simp only [hb])) | (simp only [B, F, Nat.reduceLT, Nat.reduceLeDiff, Nat.reduceEqDiff, Nat.reduceAdd, Nat.reduceMul, Nat.reduceSub, ↓reduceIte, eq_self, z0, zw, put_sts, hyo, hyc, cellAt_sts zw]))
          obtain ⟨f1, f2⟩ := put_box (p := p) (oo3.t o4) rfl ⟨hr4, fun y e b q => hp b (by have := hb4 y e b q; omega)⟩ (fun b q => by have := hb4 y rfl b q; omega)
          exact ⟨f1, _, rfl, f2⟩
      | false =>
        rw [ht, if_neg (by simp)] at hres
        rw [hop, ht]
        obtain ⟨h5, h5e⟩ : ∃ h5, h5 = (h3.newCells 125 [.int .u64 (.ofNat 0), .int .u64 (.ofNat 0), .bool false, .int .u64 (.ofNat 0), .int .u64 (.ofNat 0)]).sts h3.nx 0 (rcC c) := ⟨_, rfl⟩
        unfold rcC at h5e
        rw [ht] at p2 h5e
        have o5 : Only h3 h5 [] := by rw [h5e]; exact ((Only.refl _ _).new _ _).sts (.inr (Nat.le_refl _))
        have i2 : cellAt h5 h3.nx 3 = some (.int .u64 (.ofNat c.made)) := by rw [h5e]; simp only [B, F, Nat.reduceLT, Nat.reduceLeDiff, Nat.reduceEqDiff, Nat.reduceAdd, Nat.reduceMul, Nat.reduceSub, ↓reduceIte, eq_self]
        have i4 : cellAt h5 h3.nx 4 = some (.int .u64 (.ofNat c.nth)) := by rw [h5e]; simp only [B, F, Nat.reduceLT, Nat.reduceLeDiff, Nat.reduceEqDiff, Nat.reduceAdd, Nat.reduceMul, Nat.reduceSub, ↓reduceIte, eq_self]
        have oo5 := oo3.t o5
        have nb : (b = h3.nx) = False := by simp; have := oo3.1; omega
        have k03 := k0
        have xo5 := o5.1
        first | replace k0 := kcell k0 o5 (by omega) (by simp) | replace k0 := kwr k0 o5 (by omega) (by simp)
        first | replace r0 := kcell r0 o5 (by omega) (by simp) | replace r0 := kwr r0 o5 (by omega) (by simp)
        first | replace r1 := kcell r1 o5 (by omega) (by simp) | replace r1 := kwr r1 o5 (by omega) (by simp)
        first | replace z0 := kcell z0 o5 (by omega) (by simp) | replace z0 := kwr z0 o5 (by omega) (by simp)
        first | replace zw := kcell zw o5 (by omega) (by simp) | replace zw := kwr zw o5 (by omega) (by simp)
        have f5 := put_box (p := p) oo5 rfl (hr0.keep0 oo5) hsb
        cases q5 : decide (made = c.made) with
        | false =>
          rw [q5] at hres
          obtain ⟨e1, e2⟩ := no hres rfl
          rw [e1, e2]
          unfold PostRE errV
          repeat' (first | ((with_reducible show codeW _ _ _ _ (codeI _ _) _ _ _ _); first | (apply st_seq; exact rfl) | (refine st_reg ?_ rfl rfl ?_; exact rfl; (conv => arg 4; whnf); (conv => arg 3; whnf)) | (refine st_cond ?_ rfl ?_; exact rfl; (conv => arg 1; arg 2; whnf)) | (refine st_block ?_ rfl ?_; exact rfl; (conv => arg 9; arg 1; whnf)) | (apply st_skip; exact rfl) | (refine st_exit ?_ rfl ?_; exact rfl; (conv in exitId _ => whnf)) | (apply st_ret; exact rfl)) | ((with_reducible refine retW_intro rfl ?_); (conv => arg 2; whnf)) | ((with_reducible first | refine iB (fun hb => ?_) (fun hb => ?_) | refine gWt (fun hb => ?_) (fun hb => ?_) | refine gWf (fun hb => ?_) (fun hb => ?_)) <;> (try simp only [hb])) | (simp only [B, F, Nat.reduceLT, Nat.reduceLeDiff, Nat.reduceEqDiff, Nat.reduceAdd, Nat.reduceMul, Nat.reduceSub, ↓reduceIte, eq_self, k03, z0, zw, put_sts, hso, hsc, cellAt_sts zw, hlen, w1, lt1, nb, p0, p1, p2, p3, p4, ← h5e, k0, i2, i4, q5, Bool.not_false]))
          exact ⟨f5.1, _, rfl, f5.2⟩
        | true =>
          rw [q5, Bool.true_and] at hres
          cases q6 : decide (nth = (c.nth + 1) % M64) with
          | false =>
            rw [q6] at hres
            obtain ⟨e1, e2⟩ := no hres rfl
            rw [e1, e2]
            unfold PostRE errV
            repeat' (first | ((with_reducible show codeW _ _ _ _ (codeI _ _) _ _ _ _); first | (apply st_seq; exact rfl) | (refine st_reg ?_ rfl rfl ?_; exact rfl; (conv => arg 4; whnf); (conv => arg 3; whnf)) | (refine st_cond ?_ rfl ?_; exact rfl; (conv => arg 1; arg 2; whnf)) | (refine st_block ?_ rfl ?_; exact rfl; (conv => arg 9; arg 1; whnf)) | (apply st_skip; exact rfl) | (refine st_exit ?_ rfl ?_; exact rfl; (conv in exitId _ => whnf)) | (apply st_ret; exact rfl)) | ((with_reducible refine retW_intro rfl ?_); (conv => arg 2; whnf)) | ((with_reducible first | refine iB (fun hb => ?_) (fun hb => ?_) | refine gWt (fun hb => ?_) (fun hb => ?_) | refine gWf (fun hb => ?_) (fun hb => ?_)) <;> (try simp only [hb])) | (simp only [B, F, Nat.reduceLT, Nat.reduceLeDiff, Nat.reduceEqDiff, Nat.reduceAdd, Nat.reduceMul, Nat.reduceSub, ↓reduceIte, eq_self, k03, z0, zw, put_sts, hso, hsc, cellAt_sts zw, hlen, w1, lt1, nb, p0, p1, p2, p3, p4, ← h5e, k0, i2, i4, q5, q6, u64_mod, Bool.not_false, Bool.not_true]))
            exact ⟨f5.1, _, rfl, f5.2⟩
          | true =>
            rw [q6] at hres
            obtain ⟨-, e1, e2⟩ := fin h5 oo5 hres
            rw [e1, e2]
            unfold PostRE errV
            repeat' (first | ((with_reducible show codeW _ _ _ _ (codeI _ _) _ _ _ _); first | (apply st_seq; exact rfl) | (refine st_reg ?_ rfl rfl ?_; exact rfl; (conv => arg 4; whnf); (conv => arg 3; whnf)) | (refine st_cond ?_ rfl ?_; exact rfl; (conv => arg 1; arg 2; whnf)) | (refine st_block ?_ rfl ?_; exact rfl; (conv => arg 9; arg 1; whnf)) | (apply st_skip; exact rfl) | (refine st_exit ?_ rfl ?_; exact rfl; (conv in exitId _ => whnf)) | (apply st_ret; exact rfl)) | ((with_reducible refine retW_intro rfl ?_); (conv => arg 2; whnf)) | ((with_reducible first | refine iB (fun hb => ?_) (fun hb => ?_) | refine gWt (fun hb => ?_) (fun hb => ?_) | refine gWf (fun hb => ?_) (fun hb => ?_)) <;> (try simp only [hb])) | (simp only [B, F, Nat.reduceLT, Nat.reduceLeDiff, Nat.reduceEqDiff, Nat.reduceAdd, Nat.reduceMul, Nat.reduceSub, ↓reduceIte, eq_self, k03, hso, hsc, hlen, w1, lt1, nb, p0, p1, p2, p3, p4, ← h5e, k0, r0, r1, i2, i4, q5, q6, u64_mod, Bool.not_false, Bool.not_true]))
            refine ((rWithC h5 _ A ⟨r, made, nth, false⟩ (hr0.1.keep oo5) (by omega)).call P).mono P ?_
            rintro v h4 ⟨o4, hr4, hb4⟩
            obtain ⟨y, rfl, hyo, hyc⟩ := hr4.val
            have xo4 := o4.1
            first | replace z0 := kcell z0 o4 (by omega) (by simp) | replace z0 := kwr z0 o4 (by omega) (by simp)
            first | replace zw := kcell zw o4 (by omega) (by simp) | replace zw := kwr zw o4 (by omega) (by simp)
            repeat' (first | ((with_reducible show codeW _ _ _ _ (codeI _ _) _ _ _ _); first | (apply st_seq; exact rfl) | (refine st_reg ?_ rfl rfl ?_; exact rfl; (conv => arg 4; whnf); (conv => arg 3; whnf)) | (refine st_cond ?_ rfl ?_; exact rfl; (conv => arg 1; arg 2; whnf)) | (refine st_block ?_ rfl ?_; exact rfl; (conv => arg 9; arg 1; whnf)) | (apply st_skip; exact rfl) | (refine st_exit ?_ rfl ?_; exact rfl; (conv in exitId _ => whnf)) | (apply st_ret; exact rfl)) | ((with_reducible refine retW_intro rfl ?_); (conv => arg 2; whnf)) | ((with_reducible first | refine iB (fun hb => ?_) (fun hb => ?_) | refine gWt (fun hb => ?_) (fun hb => ?_) | refine gWf (fun hb => ?_) (fun hb => ?_)) <;> (try simp only [hb])) | (simp only [B, F, Nat.reduceLT, Nat.reduceLeDiff, Nat.reduceEqDiff, Nat.reduceAdd, Nat.reduceMul, Nat.reduceSub, ↓reduceIte, eq_self, z0, zw, put_sts, hyo, hyc, cellAt_sts zw]))
            obtain ⟨f1, f2⟩ := put_box (p := p) (oo5.t o4) rfl ⟨hr4, fun y e b q => hp b (by have := hb4 y e b q; omega)⟩ (fun b q => by have := hb4 y rfl b q; omega)
            exact ⟨f1, _, rfl, f2⟩
  · have hres : restA A r made nth = false := by
      unfold restA
      rw [Bool.not_eq_true] at hq
      rw [hq]; rfl
    obtain ⟨e1, e2⟩ := no hres rfl
    rw [e1, e2]
    unfold PostRE errV
    cases q1 : fitA A r with
    | false =>
      repeat' (first | ((with_reducible show codeW _ _ _ _ (codeI _ _) _ _ _ _); first | (apply st_seq; exact rfl) | (refine st_reg ?_ rfl rfl ?_; exact rfl; (conv => arg 4; whnf); (conv => arg 3; whnf)) | (refine st_cond ?_ rfl ?_; exact rfl; (conv => arg 1; arg 2; whnf)) | (refine st_block ?_ rfl ?_; exact rfl; (conv => arg 9; arg 1; whnf)) | (apply st_skip; exact rfl) | (refine st_exit ?_ rfl ?_; exact rfl; (conv in exitId _ => whnf)) | (apply st_ret; exact rfl)) | ((with_reducible refine retW_intro rfl ?_); (conv => arg 2; whnf)) | ((with_reducible first | refine iB (fun hb => ?_) (fun hb => ?_) | refine gWt (fun hb => ?_) (fun hb => ?_) | refine gWf (fun hb => ?_) (fun hb => ?_)) <;> (try simp only [hb])) | (simp only [B, F, Nat.reduceLT, Nat.reduceLeDiff, Nat.reduceEqDiff, Nat.reduceAdd, Nat.reduceMul, Nat.reduceSub, ↓reduceIte, eq_self, k0, z0, zw, put_sts, hso, hsc, cellAt_sts zw, r0, Bool.not_false]))
      exact ⟨f0.1, _, rfl, f0.2⟩
    | true =>
      cases q2 : decide (made = 0) with
      | true =>
        repeat' (first | ((with_reducible show codeW _ _ _ _ (codeI _ _) _ _ _ _); first | (apply st_seq; exact rfl) | (refine st_reg ?_ rfl rfl ?_; exact rfl; (conv => arg 4; whnf); (conv => arg 3; whnf)) | (refine st_cond ?_ rfl ?_; exact rfl; (conv => arg 1; arg 2; whnf)) | (refine st_block ?_ rfl ?_; exact rfl; (conv => arg 9; arg 1; whnf)) | (apply st_skip; exact rfl) | (refine st_exit ?_ rfl ?_; exact rfl; (conv in exitId _ => whnf)) | (apply st_ret; exact rfl)) | ((with_reducible refine retW_intro rfl ?_); (conv => arg 2; whnf)) | ((with_reducible first | refine iB (fun hb => ?_) (fun hb => ?_) | refine gWt (fun hb => ?_) (fun hb => ?_) | refine gWf (fun hb => ?_) (fun hb => ?_)) <;> (try simp only [hb])) | (simp only [B, F, Nat.reduceLT, Nat.reduceLeDiff, Nat.reduceEqDiff, Nat.reduceAdd, Nat.reduceMul, Nat.reduceSub, ↓reduceIte, eq_self, k0, z0, zw, put_sts, hso, hsc, cellAt_sts zw, r0, q2, Bool.not_true]))
        exact ⟨f0.1, _, rfl, f0.2⟩
      | false =>
        cases q3 : decide (r.1 < made) with
        | true =>
          repeat' (first | ((with_reducible show codeW _ _ _ _ (codeI _ _) _ _ _ _); first | (apply st_seq; exact rfl) | (refine st_reg ?_ rfl rfl ?_; exact rfl; (conv => arg 4; whnf); (conv => arg 3; whnf)) | (refine st_cond ?_ rfl ?_; exact rfl; (conv => arg 1; arg 2; whnf)) | (refine st_block ?_ rfl ?_; exact rfl; (conv => arg 9; arg 1; whnf)) | (apply st_skip; exact rfl) | (refine st_exit ?_ rfl ?_; exact rfl; (conv in exitId _ => whnf)) | (apply st_ret; exact rfl)) | ((with_reducible refine retW_intro rfl ?_); (conv => arg 2; whnf)) | ((with_reducible first | refine iB (fun hb => ?_) (fun hb => ?_) | refine gWt (fun hb => ?_) (fun hb => ?_) | refine gWf (fun hb => ?_) (fun hb => ?_)) <;> (try simp only [hb])) | (simp only [B, F, Nat.reduceLT, Nat.reduceLeDiff, Nat.reduceEqDiff, Nat.reduceAdd, Nat.reduceMul, Nat.reduceSub, ↓reduceIte, eq_self, k0, z0, zw, put_sts, hso, hsc, cellAt_sts zw, r0, q2, q3, Bool.not_true]))
          exact ⟨f0.1, _, rfl, f0.2⟩
        | false =>
          cases q4 : decide (nth = 0) with
          | true =>
            repeat' (first | ((with_reducible show codeW _ _ _ _ (codeI _ _) _ _ _ _); first | (apply st_seq; exact rfl) | (refine st_reg ?_ rfl rfl ?_; exact rfl; (conv => arg 4; whnf); (conv => arg 3; whnf)) | (refine st_cond ?_ rfl ?_; exact rfl; (conv => arg 1; arg 2; whnf)) | (refine st_block ?_ rfl ?_; exact rfl; (conv => arg 9; arg 1; whnf)) | (apply st_skip; exact rfl) | (refine st_exit ?_ rfl ?_; exact rfl; (conv in exitId _ => whnf)) | (apply st_ret; exact rfl)) | ((with_reducible refine retW_intro rfl ?_); (conv => arg 2; whnf)) | ((with_reducible first | refine iB (fun hb => ?_) (fun hb => ?_) | refine gWt (fun hb => ?_) (fun hb => ?_) | refine gWf (fun hb => ?_) (fun hb => ?_)) <;> (try simp only [hb])) | (simp only [B, F, Nat.reduceLT, Nat.reduceLeDiff, Nat.reduceEqDiff, Nat.reduceAdd, Nat.reduceMul, Nat.reduceSub, ↓reduceIte, eq_self, k0, z0, zw, put_sts, hso, hsc, cellAt_sts zw, r0, q2, q3, q4, Bool.not_true]))
            exact ⟨f0.1, _, rfl, f0.2⟩
          | false => rw [q1, q2, q3, q4] at hq; exact absurd rfl hq
def keepAt (k : Int) (i : Nat) (c : Ch) : Bool := decide (k < Int.ofNat i) || (decide (Int.ofNat i = k) && !c.tomb)
def accT (A : List Ch) (k : Int) : Nat → List Ch
  | 0 => []
  | i + 1 => match A[i]? with
    | some c => if keepAt k i c then accT A k i ++ [c] else accT A k i
    | none => accT A k i
def kepT (A : List Ch) (k : Int) : Nat → List Rv
  | 0 => []
  | i + 1 => match A[i]? with
    | some c => if decide (Int.ofNat i = k) && !c.tomb then kepT A k i ++ [c.rev] else kepT A k i
    | none => kepT A k i
theorem accT_len (A : List Ch) (k : Int) : ∀ i, (accT A k i).length ≤ i ∧ (kepT A k i).length ≤ i
  | 0 => ⟨Nat.le_refl _, Nat.le_refl _⟩
  | i + 1 => by
    obtain ⟨h1, h2⟩ := accT_len A k i
    unfold accT kepT
    cases A[i]? with
    | none => exact ⟨by simp only; omega, by simp only; omega⟩
    | some c =>
      simp only
      constructor
      · split
        · simp; omega
        · omega
      · split
        · simp; omega
        · omega
theorem acc_all (A : List Ch) (m : Nat) (hr : Rising A) : accT A (lkT A m A.length) A.length = compA A m ∧ kepT A (lkT A m A.length) A.length = (isK A m).map (·.rev) := by
  obtain ⟨P, Q, hA, hP, hQ⟩ := split_at m hr
  have hcomp : compA A m = headK P ++ Q := by rw [hA]; exact comp_split hP hQ
  have hisk : isK A m = headK P := by
    rw [hA, isK_split hP]
    have : lst (atP m) Q = none := by unfold lst; rw [filter_none (p := atP m) (fun c hc => decide_eq_false (by have := hQ c hc; omega))]; rfl
    rw [this]
  obtain ⟨k, hk⟩ : ∃ k, k = lkT A m A.length := ⟨_, rfl⟩
  have hkv : k = Int.ofNat P.length - 1 := by
    rw [hk]
    have h1 : ∀ n, lkT A m (P.length + n) = lkT A m P.length := by
      intro n
      induction n with
      | zero => rfl
      | succ n ih =>
        rw [← Nat.add_assoc, lkT]
        cases hx : A[P.length + n]? with
        | none => exact ih
        | some c =>
          simp only
          rw [hA, List.getElem?_append_right (by omega)] at hx
          rw [if_neg (by have := hQ c (List.mem_of_getElem? hx); omega)]
          exact ih
    have h2 : A.length = P.length + Q.length := by rw [hA, List.length_append]
    rw [h2, h1]
    cases hp : P.length with
    | zero => rfl
    | succ j =>
      have hx : A[j]? = some P[j] := by rw [hA, List.getElem?_append_left (by omega)]; exact List.getElem?_eq_getElem (by omega)
      rw [lkT, hx]
      simp only
      rw [if_pos (hP _ (List.getElem_mem _))]
      show Int.ofNat j = Int.ofNat (j + 1) - 1
      simp
  rw [← hk, hcomp, hisk]
  -- ahead of the last one up to the Main
  have lo : ∀ i, i < P.length → accT A k i = [] ∧ kepT A k i = [] := by
    intro i
    induction i with
    | zero => intro _; exact ⟨rfl, rfl⟩
    | succ i ih =>
      intro hi
      obtain ⟨i1, i2⟩ := ih (by omega)
      unfold accT kepT
      have e1 : decide (k < Int.ofNat i) = false := decide_eq_false (by rw [hkv]; simp; omega)
      have e2 : decide (Int.ofNat i = k) = false := decide_eq_false (by rw [hkv]; simp; omega)
      cases A[i]? with
      | none => exact ⟨i1, i2⟩
      | some c =>
        simp only [keepAt, e1, e2, Bool.false_and, Bool.or_false]
        exact ⟨i1, i2⟩
  have mid : accT A k P.length = headK P ∧ kepT A k P.length = (headK P).map (·.rev) := by
    rcases list_last P with hP0 | ⟨Y, c, hP0⟩
    · rw [hP0]; exact ⟨rfl, rfl⟩
    · have hl : P.length = Y.length + 1 := by rw [hP0]; simp
      obtain ⟨i1, i2⟩ := lo Y.length (by omega)
      have hx : A[Y.length]? = some c := by rw [hA, hP0]; simp
      rw [hl]
      unfold accT kepT
      rw [hx]
      have e1 : decide (k < Int.ofNat Y.length) = false := decide_eq_false (by rw [hkv]; simp; omega)
      have e2 : decide (Int.ofNat Y.length = k) = true := decide_eq_true (by rw [hkv]; simp; omega)
      simp only [keepAt, e1, e2, Bool.true_and, Bool.false_or, i1, i2, List.nil_append]
      have hh : headK P = if c.tomb then [] else [c] := by unfold headK; rw [hP0]; simp
      rw [hh]
      cases c.tomb <;> exact ⟨rfl, rfl⟩
  have hi : ∀ n, accT A k (P.length + n) = headK P ++ Q.take n ∧ kepT A k (P.length + n) = (headK P).map (·.rev) := by
    intro n
    induction n with
    | zero => rw [Nat.add_zero, List.take_zero, List.append_nil]; exact mid
    | succ n ih =>
      obtain ⟨i1, i2⟩ := ih
      rw [← Nat.add_assoc]
      unfold accT kepT
      have hx : A[P.length + n]? = Q[n]? := by rw [hA, List.getElem?_append_right (by omega)]; congr 1; omega
      have e1 : decide (k < Int.ofNat (P.length + n)) = true := decide_eq_true (by rw [hkv]; simp; omega)
      have e2 : decide (Int.ofNat (P.length + n) = k) = false := decide_eq_false (by rw [hkv]; simp; omega)
      rw [hx, List.take_add_one]
      cases Q[n]? with
      | none => simp [i1, i2]
      | some c =>
        simp only [keepAt, e1, e2, Bool.true_or, Bool.false_and, if_true, i1, i2]
        exact ⟨by simp, rfl⟩
  have := hi Q.length
  rw [List.take_length, ← List.length_append, ← hA] at this
  exact this
end
end Go.Proofs.Ytlkngpckibidlaa.W

namespace Go.Proofs.Ytlkngpckibidlaa.W
open Go Go.AX
noncomputable section
set_option maxRecDepth 100000
structure RcI (hs : H) (b2 b4 : Nat) (s : AV) (A : List Ch) (k : Int) (n : Nat) (ds : List Nat) (tm : T AV) (h : H) (i : Nat) (w u : AV) : Prop where
  ds : ds = []
  nn : n = A.length - i
  ii : i ≤ A.length
  t2 : tm.get 2 = some (.ptr b2 0)
  t4 : tm.get 4 = some (.ptr b4 0)
  t6 : tm.get 6 = some (.int .i64 k)
  t7 : tm.get 7 = some w
  t8 : tm.get 8 = some u
  t9 : tm.get 9 = some (.int .i64 (.ofNat i))
  oo : Only hs h []
  gw : Grows 5 hs.nx h w (accT A k i).length (rcsC (accT A k i))
  gu : Grows 2 hs.nx h u (kepT A k i).length (rvsC (kepT A k i))
  ne : ∀ b, blkOf w = some b → blkOf u ≠ some b
  nl : accT A k i = [] → w = .nilslice
theorem grows_keep {size base : Nat} {h h' : H} {v : AV} {n : Nat} {cs : List AV} (g : Grows size base h v n cs) (o : Only h h' []) : Grows size base h' v n cs :=
  g.of_get o.1 (fun b hb => o.2 b (g.base hb).2 (by simp))
theorem rCompC (p : Nat → Prop) (h : H) (v : AV) (A : List Ch) (m : Nat) (hp : ∀ b, h.nx ≤ b → p b) (hr : RefP p h v A) (hz : A.length ≤ 900) (hri : Rising A) :
    PushC P (.enter 52 [v, n64 m] h) fun v h' => Only h h' [] ∧ ∃ g u, v = .tuple [g, u] ∧ RefP p h' g (compA A m) ∧ Grows 2 h.nx h' u ((isK A m).map (·.rev)).length (rvsC ((isK A m).map (·.rev))) := by
  have hr0 := hr
  obtain ⟨⟨s, rfl, hs, hn⟩, hpb⟩ := hr
  have hso := SliceAt.one hs
  have hsc := SliceAt.cells hs
  have hlen := hs.len (P := P) u50
  unfold n64
  refine pushC_of_codeW (fn := Try.f52) (c := bodyC Try.f52) Try.func52 rfl ?_
  show codeW P 52 63 none _ _ _ _ _
  refine codeW_root ?_
  repeat' (first | ((with_reducible show codeW _ _ _ _ (codeI _ _) _ _ _ _); first | (apply st_seq; exact rfl) | (refine st_reg ?_ rfl rfl ?_; exact rfl; (conv => arg 4; whnf); (conv => arg 3; whnf)) | (refine st_cond ?_ rfl ?_; exact rfl; (conv => arg 1; arg 2; whnf)) | (refine st_block ?_ rfl ?_; exact rfl; (conv => arg 9; arg 1; whnf)) | (apply st_skip; exact rfl) | (refine st_exit ?_ rfl ?_; exact rfl; (conv in exitId _ => whnf)) | (apply st_ret; exact rfl)) | ((with_reducible refine retW_intro rfl ?_); (conv => arg 2; whnf)) | ((with_reducible first | refine iB (fun hb => ?_) (fun hb => ?_) | refine gWt (fun hb => ?_) (fun hb => ?_) | refine gWf (fun hb => ?_) (fun hb => ?_)) <;> (try simp only [hb])) | (simp only [B, F, Nat.reduceLT, Nat.reduceLeDiff, Nat.reduceEqDiff, Nat.reduceAdd, Nat.reduceMul, Nat.reduceSub, ↓reduceIte, eq_self, hso]))
  obtain ⟨h1, h1e⟩ : ∃ h1, h1 = (h.newCells 52 [s]).newCells 52 [.nilslice] := ⟨_, rfl⟩
  have o1 : Only h h1 [] := by rw [h1e]; exact ((Only.refl _ _).new _ _).new _ _
  have x1 : h1.nx = h.nx + 2 := by rw [h1e]; rfl
  have k0 : cellAt h1 h.nx 0 = some s := by rw [h1e]; simp only [B, F, Nat.reduceLT, Nat.reduceLeDiff, Nat.reduceEqDiff, Nat.reduceAdd, Nat.reduceMul, Nat.reduceSub, ↓reduceIte, eq_self]
  have z0 : cellAt h1 (h.nx + 1) 0 = some .nilslice := by rw [h1e]; simp only [B, F, Nat.reduceLT, Nat.reduceLeDiff, Nat.reduceEqDiff, Nat.reduceAdd, Nat.reduceMul, Nat.reduceSub, ↓reduceIte, eq_self]
  have zw : wrAt h1 (h.nx + 1) = true := by rw [h1e]; simp only [B, F, Nat.reduceLT, Nat.reduceLeDiff, Nat.reduceEqDiff, Nat.reduceAdd, Nat.reduceMul, Nat.reduceSub, ↓reduceIte, eq_self]
  rw [← h1e]
  refine ((rLastC h1 _ A m (hr0.1.keep o1) (by omega)).call P).mono P ?_
  rintro v h2 ⟨rfl, o2⟩
  obtain ⟨hacc, hkep⟩ := acc_all A m hri
  obtain ⟨k, hk⟩ : ∃ k, k = lkT A m A.length := ⟨_, rfl⟩
  rw [← hk] at hacc hkep ⊢
  have xo2 := o2.1
  first | replace k0 := kcell k0 o2 (by omega) (by simp) | replace k0 := kwr k0 o2 (by omega) (by simp)
  first | replace z0 := kcell z0 o2 (by omega) (by simp) | replace z0 := kwr z0 o2 (by omega) (by simp)
  first | replace zw := kcell zw o2 (by omega) (by simp) | replace zw := kwr zw o2 (by omega) (by simp)
  have oo := o1.t o2
  have hsh := hs.only oo (fun _ _ => by simp)
  repeat' (first | ((with_reducible show codeW _ _ _ _ (codeI _ _) _ _ _ _); first | (apply st_seq; exact rfl) | (refine st_reg ?_ rfl rfl ?_; exact rfl; (conv => arg 4; whnf); (conv => arg 3; whnf)) | (refine st_cond ?_ rfl ?_; exact rfl; (conv => arg 1; arg 2; whnf)) | (refine st_block ?_ rfl ?_; exact rfl; (conv => arg 9; arg 1; whnf)) | (apply st_skip; exact rfl) | (refine st_exit ?_ rfl ?_; exact rfl; (conv in exitId _ => whnf)) | (apply st_ret; exact rfl)) | ((with_reducible refine retW_intro rfl ?_); (conv => arg 2; whnf)) | ((with_reducible first | refine iB (fun hb => ?_) (fun hb => ?_) | refine gWt (fun hb => ?_) (fun hb => ?_) | refine gWf (fun hb => ?_) (fun hb => ?_)) <;> (try simp only [hb])) | (simp only [B, F, Nat.reduceLT, Nat.reduceLeDiff, Nat.reduceEqDiff, Nat.reduceAdd, Nat.reduceMul, Nat.reduceSub, ↓reduceIte, eq_self]))
  refine st_loop (fun n ds tm h' => ∃ i w u, RcI h2 h.nx (h.nx + 1) s A k n ds tm h' i w u) A.length rfl
    ⟨0, .nilslice, .nilslice, rfl, rfl, Nat.zero_le _, by simp only [B, F, Nat.reduceLT, Nat.reduceLeDiff, Nat.reduceEqDiff, Nat.reduceAdd, Nat.reduceMul, Nat.reduceSub, ↓reduceIte, eq_self], by simp only [B, F, Nat.reduceLT, Nat.reduceLeDiff, Nat.reduceEqDiff, Nat.reduceAdd, Nat.reduceMul, Nat.reduceSub, ↓reduceIte, eq_self], by simp only [B, F, Nat.reduceLT, Nat.reduceLeDiff, Nat.reduceEqDiff, Nat.reduceAdd, Nat.reduceMul, Nat.reduceSub, ↓reduceIte, eq_self], by simp only [B, F, Nat.reduceLT, Nat.reduceLeDiff, Nat.reduceEqDiff, Nat.reduceAdd, Nat.reduceMul, Nat.reduceSub, ↓reduceIte, eq_self], by simp only [B, F, Nat.reduceLT, Nat.reduceLeDiff, Nat.reduceEqDiff, Nat.reduceAdd, Nat.reduceMul, Nat.reduceSub, ↓reduceIte, eq_self], by simp only [B, F, Nat.reduceLT, Nat.reduceLeDiff, Nat.reduceEqDiff, Nat.reduceAdd, Nat.reduceMul, Nat.reduceSub, ↓reduceIte, eq_self], Only.refl _ _, Grows.none, Grows.none, (fun b q => by cases q), fun _ => rfl⟩ (fun n ds tm h3 hI => ?_)
  obtain ⟨i, w, u, rfl, rfl, ii, t2, t4, t6, t7, t8, t9, o3, gw, gu, ne, nl⟩ := hI
  have k02 := k0
  have xo3 := o3.1
  first | replace k0 := kcell k0 o3 (by omega) (by simp) | replace k0 := kwr k0 o3 (by omega) (by simp)
  first | replace z0 := kcell z0 o3 (by omega) (by simp) | replace z0 := kwr z0 o3 (by omega) (by simp)
  first | replace zw := kcell zw o3 (by omega) (by simp) | replace zw := kwr zw o3 (by omega) (by simp)
  have hs3 := hsh.only o3 (fun _ _ => by simp)
  have gwo := gw.one
  have guo := gu.one
  obtain ⟨la, lk⟩ := accT_len A k i
  by_cases hi : i < A.length
  · have d1 : decide (i < A.length) = true := decide_eq_true hi
    have lt1 : (i < A.length) = True := by simp [hi]
    have w1 : wrapF .i64 (Int.ofNat i + Int.ofNat 1) = Int.ofNat (i + 1) := i64_add (by omega)
    obtain ⟨c, hc⟩ : ∃ c, A[i]? = some c := ⟨_, List.getElem?_eq_getElem hi⟩
    obtain ⟨b, o, cap, rfl, hb, -⟩ := hs.place (by omega)
    obtain ⟨p0, p1, p2, p3, p4⟩ := rcC_at hs3 hc
    have xx := oo.1
    -- one more of what is left
    obtain ⟨hA, hAe⟩ : ∃ hA, hA = h3.newCells 125 (rcC c) := ⟨_, rfl⟩
    have oA : Only h3 hA [] := by rw [hAe]; exact (Only.refl _ _).new _ _
    have xA : hA.nx = h3.nx + 1 := by rw [hAe]; rfl
    unfold rcC at hAe
    have i0 : cellAt hA h3.nx 0 = some (.int .u64 (.ofNat c.rev.1)) := by rw [hAe]; simp only [B, F, Nat.reduceLT, Nat.reduceLeDiff, Nat.reduceEqDiff, Nat.reduceAdd, Nat.reduceMul, Nat.reduceSub, ↓reduceIte, eq_self]
    have i1 : cellAt hA h3.nx 1 = some (.int .u64 (.ofNat c.rev.2)) := by rw [hAe]; simp only [B, F, Nat.reduceLT, Nat.reduceLeDiff, Nat.reduceEqDiff, Nat.reduceAdd, Nat.reduceMul, Nat.reduceSub, ↓reduceIte, eq_self]
    have i2 : cellAt hA h3.nx 2 = some (.bool c.tomb) := by rw [hAe]; simp only [B, F, Nat.reduceLT, Nat.reduceLeDiff, Nat.reduceEqDiff, Nat.reduceAdd, Nat.reduceMul, Nat.reduceSub, ↓reduceIte, eq_self]
    have i3 : cellAt hA h3.nx 3 = some (.int .u64 (.ofNat c.made)) := by rw [hAe]; simp only [B, F, Nat.reduceLT, Nat.reduceLeDiff, Nat.reduceEqDiff, Nat.reduceAdd, Nat.reduceMul, Nat.reduceSub, ↓reduceIte, eq_self]
    have i4 : cellAt hA h3.nx 4 = some (.int .u64 (.ofNat c.nth)) := by rw [hAe]; simp only [B, F, Nat.reduceLT, Nat.reduceLeDiff, Nat.reduceEqDiff, Nat.reduceAdd, Nat.reduceMul, Nat.reduceSub, ↓reduceIte, eq_self]
    have gwA := grows_keep gw oA
    have guA := grows_keep gu oA
    cases q1 : decide (k < Int.ofNat i) with
    | true =>
      have q2 : decide (Int.ofNat i = k) = false := decide_eq_false (by have := of_decide_eq_true q1; omega)
      have ea : accT A k (i + 1) = accT A k i ++ [c] := by rw [accT, hc]; simp only [keepAt, q1, Bool.true_or, if_true]
      have ek : kepT A k (i + 1) = kepT A k i := by rw [kepT, hc]; simp only [q2, Bool.false_and]; rfl
      repeat' (first | ((with_reducible show codeW _ _ _ _ (codeI _ _) _ _ _ _); first | (apply st_seq; exact rfl) | (refine st_reg ?_ rfl rfl ?_; exact rfl; (conv => arg 4; whnf); (conv => arg 3; whnf)) | (refine st_cond ?_ rfl ?_; exact rfl; (conv => arg 1; arg 2; whnf)) | (refine st_block ?_ rfl ?_; exact rfl; (conv => arg 9; arg 1; whnf)) | (apply st_skip; exact rfl) | (refine st_exit ?_ rfl ?_; exact rfl; (conv in exitId _ => whnf)) | (apply st_ret; exact rfl)) | ((with_reducible refine retW_intro rfl ?_); (conv => arg 2; whnf)) | ((with_reducible first | refine iB (fun hb => ?_) (fun hb => ?_) | refine gWt (fun hb => ?_) (fun hb => ?_) | refine gWf (fun hb => ?_) (fun hb => ?_)) <;> (try simp only [hb])) | (simp only [B, F, Nat.reduceLT, Nat.reduceLeDiff, Nat.reduceEqDiff, Nat.reduceAdd, Nat.reduceMul, Nat.reduceSub, ↓reduceIte, eq_self, t2, t6, t7, t8, t9, k0, hlen, d1, lt1, q1, p0, p1, p2, p3, p4, ← hAe, gwo, i0, i1, i2, i3, i4]))
      refine exW_grows (m := 1) (new := rcC c) gwA (by omega) (by omega) (by omega) rfl (by omega) (fun v' h4 gr4 x4 old4 blk4 => ?_)
      rw [rcs_snoc] at gr4
      have o4 : Only h2 h4 [] := ⟨by have := o3.1; omega, fun b hb _ => by
        have := o3.1
        rw [old4 b (by omega) (fun q => by have := (gwA.base q).1; omega)]; exact (o3.t oA).2 b hb (by simp)⟩
      have go4 := gr4.one
      have gu4 := guA.of_get (by omega) (fun b hb => old4 b (guA.base hb).2 (fun q => ne b q hb))
      repeat' (first | ((with_reducible show codeW _ _ _ _ (codeI _ _) _ _ _ _); first | (apply st_seq; exact rfl) | (refine st_reg ?_ rfl rfl ?_; exact rfl; (conv => arg 4; whnf); (conv => arg 3; whnf)) | (refine st_cond ?_ rfl ?_; exact rfl; (conv => arg 1; arg 2; whnf)) | (refine st_block ?_ rfl ?_; exact rfl; (conv => arg 9; arg 1; whnf)) | (apply st_skip; exact rfl) | (refine st_exit ?_ rfl ?_; exact rfl; (conv in exitId _ => whnf)) | (apply st_ret; exact rfl)) | ((with_reducible refine retW_intro rfl ?_); (conv => arg 2; whnf)) | ((with_reducible first | refine iB (fun hb => ?_) (fun hb => ?_) | refine gWt (fun hb => ?_) (fun hb => ?_) | refine gWf (fun hb => ?_) (fun hb => ?_)) <;> (try simp only [hb])) | (simp only [B, F, Nat.reduceLT, Nat.reduceLeDiff, Nat.reduceEqDiff, Nat.reduceAdd, Nat.reduceMul, Nat.reduceSub, ↓reduceIte, eq_self, t2, t6, t7, t8, t9, w1, go4]))
      exact ⟨A.length - (i + 1), by omega, i + 1, v', u, rfl, rfl, hi, by simp only [B, F, Nat.reduceLT, Nat.reduceLeDiff, Nat.reduceEqDiff, Nat.reduceAdd, Nat.reduceMul, Nat.reduceSub, ↓reduceIte, eq_self, t2], by simp only [B, F, Nat.reduceLT, Nat.reduceLeDiff, Nat.reduceEqDiff, Nat.reduceAdd, Nat.reduceMul, Nat.reduceSub, ↓reduceIte, eq_self, t4], by simp only [B, F, Nat.reduceLT, Nat.reduceLeDiff, Nat.reduceEqDiff, Nat.reduceAdd, Nat.reduceMul, Nat.reduceSub, ↓reduceIte, eq_self, t6], by simp only [B, F, Nat.reduceLT, Nat.reduceLeDiff, Nat.reduceEqDiff, Nat.reduceAdd, Nat.reduceMul, Nat.reduceSub, ↓reduceIte, eq_self], by simp only [B, F, Nat.reduceLT, Nat.reduceLeDiff, Nat.reduceEqDiff, Nat.reduceAdd, Nat.reduceMul, Nat.reduceSub, ↓reduceIte, eq_self, t8], by simp only [B, F, Nat.reduceLT, Nat.reduceLeDiff, Nat.reduceEqDiff, Nat.reduceAdd, Nat.reduceMul, Nat.reduceSub, ↓reduceIte, eq_self], o4, by rw [ea, List.length_append]; exact gr4, by rw [ek]; exact gu4, fun b q q2 => by rw [blk4] at q; cases q; have := (guA.base q2).2; omega, fun e => by rw [ea] at e; simp at e⟩
    | false =>
      cases q2 : decide (Int.ofNat i = k) with
      | false =>
        have q3 : (Int.ofNat i == k) = false := beq_eq_false_iff_ne.2 (of_decide_eq_false q2)
        have ea : accT A k (i + 1) = accT A k i := by rw [accT, hc]; simp only [keepAt, q1, q2, Bool.false_and, Bool.or_false]; rfl
        have ek : kepT A k (i + 1) = kepT A k i := by rw [kepT, hc]; simp only [q2, Bool.false_and]; rfl
        repeat' (first | ((with_reducible show codeW _ _ _ _ (codeI _ _) _ _ _ _); first | (apply st_seq; exact rfl) | (refine st_reg ?_ rfl rfl ?_; exact rfl; (conv => arg 4; whnf); (conv => arg 3; whnf)) | (refine st_cond ?_ rfl ?_; exact rfl; (conv => arg 1; arg 2; whnf)) | (refine st_block ?_ rfl ?_; exact rfl; (conv => arg 9; arg 1; whnf)) | (apply st_skip; exact rfl) | (refine st_exit ?_ rfl ?_; exact rfl; (conv in exitId _ => whnf)) | (apply st_ret; exact rfl)) | ((with_reducible refine retW_intro rfl ?_); (conv => arg 2; whnf)) | ((with_reducible first | refine iB (fun hb => ?_) (fun hb => ?_) | refine gWt (fun hb => ?_) (fun hb => ?_) | refine gWf (fun hb => ?_) (fun hb => ?_)) <;> (try simp only [hb])) | (simp only [B, F, Nat.reduceLT, Nat.reduceLeDiff, Nat.reduceEqDiff, Nat.reduceAdd, Nat.reduceMul, Nat.reduceSub, ↓reduceIte, eq_self, t2, t6, t7, t8, t9, k0, hlen, d1, lt1, q1, q3, p0, p1, p2, p3, p4, w1]))
        exact ⟨A.length - (i + 1), by omega, i + 1, w, u, rfl, rfl, hi, by simp only [B, F, Nat.reduceLT, Nat.reduceLeDiff, Nat.reduceEqDiff, Nat.reduceAdd, Nat.reduceMul, Nat.reduceSub, ↓reduceIte, eq_self, t2], by simp only [B, F, Nat.reduceLT, Nat.reduceLeDiff, Nat.reduceEqDiff, Nat.reduceAdd, Nat.reduceMul, Nat.reduceSub, ↓reduceIte, eq_self, t4], by simp only [B, F, Nat.reduceLT, Nat.reduceLeDiff, Nat.reduceEqDiff, Nat.reduceAdd, Nat.reduceMul, Nat.reduceSub, ↓reduceIte, eq_self, t6], by simp only [B, F, Nat.reduceLT, Nat.reduceLeDiff, Nat.reduceEqDiff, Nat.reduceAdd, Nat.reduceMul, Nat.reduceSub, ↓reduceIte, eq_self, t7], by simp only [B, F, Nat.reduceLT, Nat.reduceLeDiff, Nat.reduceEqDiff, Nat.reduceAdd, Nat.reduceMul, Nat.reduceSub, ↓reduceIte, eq_self, t8], by simp only [B, F, Nat.reduceLT, Nat.reduceLeDiff, Nat.reduceEqDiff, Nat.reduceAdd, Nat.reduceMul, Nat.reduceSub, ↓reduceIte, eq_self], o3, by rw [ea]; exact gw, by rw [ek]; exact gu, ne, by rw [ea]; exact nl⟩
      | true =>
        have q3 : (Int.ofNat i == k) = true := beq_iff_eq.2 (of_decide_eq_true q2)
        cases ht : c.tomb with
        | true =>
          have ea : accT A k (i + 1) = accT A k i := by rw [accT, hc]; simp only [keepAt, q1, q2, ht, Bool.not_true, Bool.and_false, Bool.or_false]; rfl
          have ek : kepT A k (i + 1) = kepT A k i := by rw [kepT, hc]; simp only [q2, ht, Bool.not_true, Bool.and_false]; rfl
          rw [ht] at p2
          repeat' (first | ((with_reducible show codeW _ _ _ _ (codeI _ _) _ _ _ _); first | (apply st_seq; exact rfl) | (refine st_reg ?_ rfl rfl ?_; exact rfl; (conv => arg 4; whnf); (conv => arg 3; whnf)) | (refine st_cond ?_ rfl ?_; exact rfl; (conv => arg 1; arg 2; whnf)) | (refine st_block ?_ rfl ?_; exact rfl; (conv => arg 9; arg 1; whnf)) | (apply st_skip; exact rfl) | (refine st_exit ?_ rfl ?_; exact rfl; (conv in exitId _ => whnf)) | (apply st_ret; exact rfl)) | ((with_reducible refine retW_intro rfl ?_); (conv => arg 2; whnf)) | ((with_reducible first | refine iB (fun hb => ?_) (fun hb => ?_) | refine gWt (fun hb => ?_) (fun hb => ?_) | refine gWf (fun hb => ?_) (fun hb => ?_)) <;> (try simp only [hb])) | (simp only [B, F, Nat.reduceLT, Nat.reduceLeDiff, Nat.reduceEqDiff, Nat.reduceAdd, Nat.reduceMul, Nat.reduceSub, ↓reduceIte, eq_self, t2, t6, t7, t8, t9, k0, hlen, d1, lt1, q1, q3, p0, p1, p2, p3, p4, w1]))
          exact ⟨A.length - (i + 1), by omega, i + 1, w, u, rfl, rfl, hi, by simp only [B, F, Nat.reduceLT, Nat.reduceLeDiff, Nat.reduceEqDiff, Nat.reduceAdd, Nat.reduceMul, Nat.reduceSub, ↓reduceIte, eq_self, t2], by simp only [B, F, Nat.reduceLT, Nat.reduceLeDiff, Nat.reduceEqDiff, Nat.reduceAdd, Nat.reduceMul, Nat.reduceSub, ↓reduceIte, eq_self, t4], by simp only [B, F, Nat.reduceLT, Nat.reduceLeDiff, Nat.reduceEqDiff, Nat.reduceAdd, Nat.reduceMul, Nat.reduceSub, ↓reduceIte, eq_self, t6], by simp only [B, F, Nat.reduceLT, Nat.reduceLeDiff, Nat.reduceEqDiff, Nat.reduceAdd, Nat.reduceMul, Nat.reduceSub, ↓reduceIte, eq_self, t7], by simp only [B, F, Nat.reduceLT, Nat.reduceLeDiff, Nat.reduceEqDiff, Nat.reduceAdd, Nat.reduceMul, Nat.reduceSub, ↓reduceIte, eq_self, t8], by simp only [B, F, Nat.reduceLT, Nat.reduceLeDiff, Nat.reduceEqDiff, Nat.reduceAdd, Nat.reduceMul, Nat.reduceSub, ↓reduceIte, eq_self], o3, by rw [ea]; exact gw, by rw [ek]; exact gu, ne, by rw [ea]; exact nl⟩
        | false =>
          have ea : accT A k (i + 1) = accT A k i ++ [c] := by rw [accT, hc]; simp only [keepAt, q1, q2, ht, Bool.not_false, Bool.and_true, Bool.or_true, if_true]
          have ek : kepT A k (i + 1) = kepT A k i ++ [c.rev] := by rw [kepT, hc]; simp only [q2, ht, Bool.not_false, Bool.and_true, if_true]
          rw [ht] at p2 hAe i2
          repeat' (first | ((with_reducible show codeW _ _ _ _ (codeI _ _) _ _ _ _); first | (apply st_seq; exact rfl) | (refine st_reg ?_ rfl rfl ?_; exact rfl; (conv => arg 4; whnf); (conv => arg 3; whnf)) | (refine st_cond ?_ rfl ?_; exact rfl; (conv => arg 1; arg 2; whnf)) | (refine st_block ?_ rfl ?_; exact rfl; (conv => arg 9; arg 1; whnf)) | (apply st_skip; exact rfl) | (refine st_exit ?_ rfl ?_; exact rfl; (conv in exitId _ => whnf)) | (apply st_ret; exact rfl)) | ((with_reducible refine retW_intro rfl ?_); (conv => arg 2; whnf)) | ((with_reducible first | refine iB (fun hb => ?_) (fun hb => ?_) | refine gWt (fun hb => ?_) (fun hb => ?_) | refine gWf (fun hb => ?_) (fun hb => ?_)) <;> (try simp only [hb])) | (simp only [B, F, Nat.reduceLT, Nat.reduceLeDiff, Nat.reduceEqDiff, Nat.reduceAdd, Nat.reduceMul, Nat.reduceSub, ↓reduceIte, eq_self, t2, t6, t7, t8, t9, k0, hlen, d1, lt1, q1, q3, p0, p1, p2, p3, p4, ← hAe, gwo, i0, i1, i2, i3, i4]))
          refine exW_grows (m := 1) gwA (by omega) (by omega) (by omega) rfl (by omega) (fun v' h4 gr4 x4 old4 blk4 => ?_)
          have erc : rcC c = [.int .u64 (.ofNat c.rev.1), .int .u64 (.ofNat c.rev.2), .bool false, .int .u64 (.ofNat c.made), .int .u64 (.ofNat c.nth)] := by unfold rcC; rw [ht]
          rw [← erc, rcs_snoc] at gr4
          have x03 := o3.1
          have o4 : Only h2 h4 [] := ⟨by omega, fun b hb _ => by
            rw [old4 b (by omega) (fun q => by have := (gwA.base q).1; omega)]; exact (o3.t oA).2 b hb (by simp)⟩
          have o34 : Only h4 h4 [] := Only.refl _ _
          have go4 := gr4.one
          have gu4 := guA.of_get (by omega) (fun b hb => old4 b (guA.base hb).2 (fun q => ne b q hb))
          have k4 := kcell k02 o4 (by omega) (by simp)
          have p04 := (cellAt_of_get (old4 b (by omega) (fun q => by have := (gwA.base q).1; omega)) (o + i * 5)).trans (kcell p0 oA (by omega) (by simp))
          have p14 := (cellAt_of_get (old4 b (by omega) (fun q => by have := (gwA.base q).1; omega)) (o + (i * 5 + 1))).trans (kcell p1 oA (by omega) (by simp))
          obtain ⟨h5, h5e⟩ : ∃ h5, h5 = h4.newCells 35 [.int .u64 (.ofNat c.rev.1), .int .u64 (.ofNat c.rev.2)] := ⟨_, rfl⟩
          have o5 : Only h4 h5 [] := by rw [h5e]; exact (Only.refl _ _).new _ _
          have x5 : h5.nx = h4.nx + 1 := by rw [h5e]; rfl
          have j0 : cellAt h5 h4.nx 0 = some (.int .u64 (.ofNat c.rev.1)) := by rw [h5e]; simp only [B, F, Nat.reduceLT, Nat.reduceLeDiff, Nat.reduceEqDiff, Nat.reduceAdd, Nat.reduceMul, Nat.reduceSub, ↓reduceIte, eq_self]
          have j1 : cellAt h5 h4.nx 1 = some (.int .u64 (.ofNat c.rev.2)) := by rw [h5e]; simp only [B, F, Nat.reduceLT, Nat.reduceLeDiff, Nat.reduceEqDiff, Nat.reduceAdd, Nat.reduceMul, Nat.reduceSub, ↓reduceIte, eq_self]
          have gu5 := grows_keep gu4 o5
          have gr5 := grows_keep gr4 o5
          repeat' (first | ((with_reducible show codeW _ _ _ _ (codeI _ _) _ _ _ _); first | (apply st_seq; exact rfl) | (refine st_reg ?_ rfl rfl ?_; exact rfl; (conv => arg 4; whnf); (conv => arg 3; whnf)) | (refine st_cond ?_ rfl ?_; exact rfl; (conv => arg 1; arg 2; whnf)) | (refine st_block ?_ rfl ?_; exact rfl; (conv => arg 9; arg 1; whnf)) | (apply st_skip; exact rfl) | (refine st_exit ?_ rfl ?_; exact rfl; (conv in exitId _ => whnf)) | (apply st_ret; exact rfl)) | ((with_reducible refine retW_intro rfl ?_); (conv => arg 2; whnf)) | ((with_reducible first | refine iB (fun hb => ?_) (fun hb => ?_) | refine gWt (fun hb => ?_) (fun hb => ?_) | refine gWf (fun hb => ?_) (fun hb => ?_)) <;> (try simp only [hb])) | (simp only [B, F, Nat.reduceLT, Nat.reduceLeDiff, Nat.reduceEqDiff, Nat.reduceAdd, Nat.reduceMul, Nat.reduceSub, ↓reduceIte, eq_self, t2, t6, t7, t8, t9, hlen, lt1, go4, k4, p04, p14, ← h5e, guo, j0, j1]))
          refine exW_grows (m := 1) (new := rvC c.rev) gu5 (by omega) (by omega) (by omega) rfl (by omega) (fun u' h6 gr6 x6 old6 blk6 => ?_)
          have e6 : rvsC (kepT A k i) ++ rvC c.rev = rvsC (kepT A k i ++ [c.rev]) := by simp [rvsC]
          rw [e6] at gr6
          have o6 : Only h2 h6 [] := ⟨by omega, fun b hb _ => by
            rw [old6 b (by omega) (fun q => by have := (gu5.base q).1; omega)]; exact (o4.t o5).2 b hb (by simp)⟩
          have go6 := gr6.one
          have ne6 : ∀ b, blkOf v' = some b → blkOf u ≠ some b := fun b q q2 => by rw [blk4] at q; cases q; have := (guA.base q2).2; omega
          have gr6' := gr5.of_get (by omega) (fun b hb => old6 b (gr5.base hb).2 (ne6 b hb))
          repeat' (first | ((with_reducible show codeW _ _ _ _ (codeI _ _) _ _ _ _); first | (apply st_seq; exact rfl) | (refine st_reg ?_ rfl rfl ?_; exact rfl; (conv => arg 4; whnf); (conv => arg 3; whnf)) | (refine st_cond ?_ rfl ?_; exact rfl; (conv => arg 1; arg 2; whnf)) | (refine st_block ?_ rfl ?_; exact rfl; (conv => arg 9; arg 1; whnf)) | (apply st_skip; exact rfl) | (refine st_exit ?_ rfl ?_; exact rfl; (conv in exitId _ => whnf)) | (apply st_ret; exact rfl)) | ((with_reducible refine retW_intro rfl ?_); (conv => arg 2; whnf)) | ((with_reducible first | refine iB (fun hb => ?_) (fun hb => ?_) | refine gWt (fun hb => ?_) (fun hb => ?_) | refine gWf (fun hb => ?_) (fun hb => ?_)) <;> (try simp only [hb])) | (simp only [B, F, Nat.reduceLT, Nat.reduceLeDiff, Nat.reduceEqDiff, Nat.reduceAdd, Nat.reduceMul, Nat.reduceSub, ↓reduceIte, eq_self, t2, t6, t7, t8, t9, w1, go6]))
          exact ⟨A.length - (i + 1), by omega, i + 1, v', u', rfl, rfl, hi, by simp only [B, F, Nat.reduceLT, Nat.reduceLeDiff, Nat.reduceEqDiff, Nat.reduceAdd, Nat.reduceMul, Nat.reduceSub, ↓reduceIte, eq_self, t2], by simp only [B, F, Nat.reduceLT, Nat.reduceLeDiff, Nat.reduceEqDiff, Nat.reduceAdd, Nat.reduceMul, Nat.reduceSub, ↓reduceIte, eq_self, t4], by simp only [B, F, Nat.reduceLT, Nat.reduceLeDiff, Nat.reduceEqDiff, Nat.reduceAdd, Nat.reduceMul, Nat.reduceSub, ↓reduceIte, eq_self, t6], by simp only [B, F, Nat.reduceLT, Nat.reduceLeDiff, Nat.reduceEqDiff, Nat.reduceAdd, Nat.reduceMul, Nat.reduceSub, ↓reduceIte, eq_self], by simp only [B, F, Nat.reduceLT, Nat.reduceLeDiff, Nat.reduceEqDiff, Nat.reduceAdd, Nat.reduceMul, Nat.reduceSub, ↓reduceIte, eq_self], by simp only [B, F, Nat.reduceLT, Nat.reduceLeDiff, Nat.reduceEqDiff, Nat.reduceAdd, Nat.reduceMul, Nat.reduceSub, ↓reduceIte, eq_self], o6, by rw [ea, List.length_append]; exact gr6', by rw [ek, List.length_append]; exact gr6, fun b q q2 => by rw [blk6] at q2; rw [blk4] at q; simp only [Option.some.injEq] at q q2; omega, fun e => by rw [ea] at e; simp at e⟩
  · have d1 : decide (i < A.length) = false := decide_eq_false hi
    obtain rfl : i = A.length := by omega
    rw [hacc] at gw
    rw [hkep] at gu
    have gwc := gw.cells
    have hcl : (compA A m).length ≤ A.length := by rw [compA_filter m hri]; exact List.length_filter_le _ _
    repeat' (first | ((with_reducible show codeW _ _ _ _ (codeI _ _) _ _ _ _); first | (apply st_seq; exact rfl) | (refine st_reg ?_ rfl rfl ?_; exact rfl; (conv => arg 4; whnf); (conv => arg 3; whnf)) | (refine st_cond ?_ rfl ?_; exact rfl; (conv => arg 1; arg 2; whnf)) | (refine st_block ?_ rfl ?_; exact rfl; (conv => arg 9; arg 1; whnf)) | (apply st_skip; exact rfl) | (refine st_exit ?_ rfl ?_; exact rfl; (conv in exitId _ => whnf)) | (apply st_ret; exact rfl)) | ((with_reducible refine retW_intro rfl ?_); (conv => arg 2; whnf)) | ((with_reducible first | refine iB (fun hb => ?_) (fun hb => ?_) | refine gWt (fun hb => ?_) (fun hb => ?_) | refine gWf (fun hb => ?_) (fun hb => ?_)) <;> (try simp only [hb])) | (simp only [B, F, Nat.reduceLT, Nat.reduceLeDiff, Nat.reduceEqDiff, Nat.reduceAdd, Nat.reduceMul, Nat.reduceSub, ↓reduceIte, eq_self, t2, t4, t6, t7, t8, t9, k0, hlen, d1, gwo, gwc, z0, zw, put_sts, cellAt_sts zw]))
    have xx := o3.1
    have oF : Only h3 (h3.sts (h.nx + 1) 0 [w]) [h.nx + 1] := (Only.refl _ _).sts (.inl (by simp))
    refine ⟨(oo.t o3).sts (.inr (by omega)), _, u, rfl, ⟨⟨w, rfl, gw.slice.only oF (fun b q => by have := (gw.base q).1; simp; omega), fun e => ?_⟩, fun y e b q => by cases e; exact hp b (by have := (gw.base q).1; omega)⟩, ?_⟩
    · rw [hacc] at nl; exact nl e
    · exact (gu.of_get (by rw [nx_sts]; exact Nat.le_refl _) (fun b q => get_sts _ _ _ _ (by have := (gu.base q).1; omega))).weak (by omega)
end
end Go.Proofs.Ytlkngpckibidlaa.W

namespace Go.Proofs.Ytlkngpckibidlaa.W
open Go Go.AX
noncomputable section
set_option maxRecDepth 1000000 in
theorem worksG : groundAt P noHook 60000 11 [] = some (.bool true) := by kernel_rfl
theorem worksC (h : H) {Q : AV → H → Prop} (hq : Q (.bool true) h) : CallC P (.enter 11 [] h) Q := callC_closed worksG hq
theorem ord3_0 : drawO P (regionOf (codeI (bodyC Try.f3) [0, 0, 1, 1, 1, 1, 1, 1, 1, 1])) [0, 1, 2, 3, 4, 5, 6, 7, 8, 9, 10, 11, 12, 14, 15, 16, 13, 17, 18, 19, 20, 21, 22, 24, 23, 25, 26, 27, 28] = true := by kernel_rfl
theorem ord4_0 : drawO P (regionOf (codeI (bodyC Try.f4) [0, 1, 1, 1, 1])) [0, 6, 1, 2, 3, 4, 5, 7, 8] = true := by kernel_rfl
theorem ord4_1 : drawO P (regionOf (codeI (bodyC Try.f4) [0, 1, 1, 1, 1, 1])) [0, 6, 1, 2, 3, 4, 5, 7, 8] = true := by kernel_rfl
theorem ord5_0 : drawO P (regionOf (codeI (bodyC Try.f5) [0, 1, 0, 0, 1, 0, 0, 1, 0, 1, 1, 1])) [0, 1, 2, 3, 4, 5, 11, 12, 6, 7, 8, 9, 10, 13, 14, 15] = true := by kernel_rfl
theorem ord6_0 : drawO P (regionOf (codeI (bodyC Try.f6) [0, 0, 0, 1, 0, 0, 1, 0, 1, 1, 1, 1, 1])) [0, 1, 2, 3, 4, 5, 12, 6, 7, 8, 9, 10, 11, 13, 14, 15, 16] = true := by kernel_rfl
theorem ord6_1 : drawO P (regionOf (codeI (bodyC Try.f6) [0, 0, 1, 1, 1, 1, 1, 1])) [0, 2, 1, 3, 4, 5, 6, 8, 7, 9, 10, 11] = true := by kernel_rfl
theorem ord23_0 : drawO P (regionOf (codeI (bodyC Try.f23) [0, 1, 1, 1])) [0, 1, 2, 3, 4, 5, 6, 7, 8, 9, 10, 11, 12, 13, 14, 15, 16, 17, 18, 19, 20, 22, 23, 21, 24, 25, 26, 27, 28, 30, 29, 31, 32, 33, 34, 35, 37, 38, 39, 40, 36, 41, 42, 43] = true := by kernel_rfl
def PostTrue (v : AV) (_ : H) : Prop := v = .bool true
end
end Go.Proofs.Ytlkngpckibidlaa.W


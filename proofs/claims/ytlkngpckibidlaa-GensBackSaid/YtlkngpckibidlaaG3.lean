/-
  gens: the plain laws of GensCompact and GensBack.
  gens: GensCompact, walked.
  gens: GensBack, walked.
  'GensBack' returns true, whatever the input; each argument reads as it did. No condition.
-/
import Derived.Test.YtlkngpckibidlaaG2
import Derived.Test.YtlkngpckibidlaaAxI
import Derived.Test.YtlkngpckibidlaaRows
set_option linter.unusedSimpArgs false
set_option linter.unusedVariables false
namespace Go.Proofs.Ytlkngpckibidlaa.W
open Go Go.AX
noncomputable section
theorem split_at {B : List Ch} (m : Nat) (hB : Rising B) : ∃ P Q, B = P ++ Q ∧ (∀ c, c ∈ P → c.rev.1 ≤ m) ∧ ∀ c, c ∈ Q → m < c.rev.1 := by
  induction B with
  | nil => exact ⟨[], [], rfl, (fun _ h => by cases h), fun _ h => by cases h⟩
  | cons a B ih =>
    unfold Rising at hB
    rw [List.pairwise_cons] at hB
    rcases Nat.lt_or_ge m a.rev.1 with q | q
    · refine ⟨[], a :: B, rfl, (fun _ h => by cases h), fun c hc => ?_⟩
      rcases List.mem_cons.1 hc with rfl | hc
      · exact q
      · exact Nat.lt_of_lt_of_le q (above_le (hB.1 c hc))
    · obtain ⟨P, Q, rfl, hP, hQ⟩ := ih hB.2
      refine ⟨a :: P, Q, rfl, fun c hc => ?_, hQ⟩
      rcases List.mem_cons.1 hc with rfl | hc
      · exact q
      · exact hP c hc
def headK (P : List Ch) : List Ch :=
  match P.getLast? with
  | some c => if c.tomb then [] else [c]
  | none => []
theorem headK_mem {P : List Ch} {c : Ch} (h : c ∈ headK P) : c ∈ P ∧ c.tomb = false := by
  unfold headK at h
  split at h
  · rename_i d hd
    split at h
    · cases h
    · rename_i ht
      rw [List.mem_singleton] at h; subst h
      exact ⟨List.mem_of_getLast? hd, by simpa using ht⟩
  · cases h
theorem filter_all {α : Type} {p : α → Bool} {l : List α} (h : ∀ x, x ∈ l → p x = true) : l.filter p = l := List.filter_eq_self.2 h
theorem filter_none {α : Type} {p : α → Bool} {l : List α} (h : ∀ x, x ∈ l → p x = false) : l.filter p = [] := List.filter_eq_nil_iff.2 fun x hx => by rw [h x hx]; simp
theorem comp_split {P Q : List Ch} {m : Nat} (hP : ∀ c, c ∈ P → c.rev.1 ≤ m) (hQ : ∀ c, c ∈ Q → m < c.rev.1) : compA (P ++ Q) m = headK P ++ Q := by
  have hl : lst (atP m) (P ++ Q) = P.getLast? := by
    unfold lst atP
    rw [List.filter_append, filter_all (fun c hc => decide_eq_true (hP c hc)), filter_none (fun c hc => decide_eq_false (by have := hQ c hc; omega)), List.append_nil]
  unfold compA
  rw [hl, List.filter_append, filter_none (fun c hc => decide_eq_false (by have := hP c hc; omega)), filter_all (fun c hc => decide_eq_true (hQ c hc)), List.nil_append]
  rfl
def isK (A : List Ch) (m : Nat) : List Ch :=
  match lst (atP m) A with
  | some c => if c.tomb then [] else [c]
  | none => []
theorem isK_split {P Q : List Ch} {m : Nat} (hP : ∀ c, c ∈ P → c.rev.1 ≤ m) : isK (P ++ Q) m = match lst (atP m) Q with | some c => if c.tomb then [] else [c] | none => headK P := by
  unfold isK lst
  rw [List.filter_append, filter_all (p := atP m) (l := P) (fun c hc => decide_eq_true (hP c hc)), List.getLast?_append]
  cases (Q.filter (atP m)).getLast? <;> rfl
theorem isK_comp {A : List Ch} (hr : Rising A) {c m : Nat} (hm : c ≤ m) : isK (compA A c) m = isK A m := by
  obtain ⟨P, Q, rfl, hP, hQ⟩ := split_at c hr
  rw [comp_split hP hQ, isK_split (fun x hx => Nat.le_trans (hP x (headK_mem hx).1) hm), isK_split (fun x hx => Nat.le_trans (hP x hx) hm)]
  cases lst (atP m) Q with
  | some d => rfl
  | none =>
    simp only
    unfold headK
    cases hp : P.getLast? with
    | none => rfl
    | some d =>
      cases ht : d.tomb with
      | true => simp [ht]
      | false => simp [ht]
theorem compA_isK (A : List Ch) (m : Nat) : compA A m = isK A m ++ A.filter fun c => decide (m < c.rev.1) := id rfl
theorem filter_comp {A : List Ch} (hr : Rising A) {c d : Nat} (h : c ≤ d) : (compA A c).filter (fun x => decide (d < x.rev.1)) = A.filter fun x => decide (d < x.rev.1) := by
  obtain ⟨P, Q, rfl, hP, hQ⟩ := split_at c hr
  rw [comp_split hP hQ, List.filter_append, List.filter_append, filter_none (fun x hx => decide_eq_false (by have := hP x (headK_mem hx).1; omega)), filter_none (l := P) (fun x hx => decide_eq_false (by have := hP x hx; omega))]
theorem compA_comp {A : List Ch} (hr : Rising A) {c d : Nat} (h : c ≤ d) : compA (compA A c) d = compA A d := by
  rw [compA_isK, isK_comp hr h, filter_comp hr h, compA_isK A d]
theorem since_comp {A : List Ch} (hr : Rising A) (c : Nat) : sinceL (c + 1) (compA A c) = sinceL (c + 1) A := by
  unfold sinceL
  rw [show (fun x : Ch => decide (c + 1 ≤ x.rev.1)) = fun x => decide (c < x.rev.1) from rfl, filter_comp hr (Nat.le_refl c)]
theorem atB_isK (L : List Gn) (m : Nat) : atB L m = !(isK (all L) m).isEmpty := by
  unfold atB isK lstB lstC
  cases lst (atP m) (all L) with
  | none => rfl
  | some c => cases ht : c.tomb <;> simp [ht]
theorem atK_isK (L : List Gn) (m : Nat) : atK L m = (isK (all L) m).headD ch0 := by
  have := atB_isK L m
  unfold atK
  rw [this]
  unfold isK lstC
  cases lst (atP m) (all L) with
  | none => rfl
  | some c => cases ht : c.tomb <;> simp [ht]
theorem compK_isK (L : List Gn) (m : Nat) : compK L m = (isK (all L) m).map (·.rev) := by
  unfold compK
  rw [atB_isK, atK_isK]
  unfold isK
  cases lst (atP m) (all L) with
  | none => rfl
  | some c => cases ht : c.tomb <;> simp [ht]
theorem isK_mem {A : List Ch} {m : Nat} {c : Ch} (h : c ∈ isK A m) : c ∈ A ∧ c.tomb = false := by
  unfold isK at h
  split at h
  · rename_i d hd
    split at h
    · cases h
    · rename_i ht
      rw [List.mem_singleton] at h; subst h
      exact ⟨(List.mem_filter.1 (List.mem_of_getLast? hd)).1, by simpa using ht⟩
  · cases h
theorem isK_len (A : List Ch) (m : Nat) : (isK A m).length ≤ 1 := by
  unfold isK
  split
  · split <;> simp
  · simp
def NthPos (A : List Ch) : Prop := ∀ c, c ∈ A → c.tomb = false → 0 < c.nth
theorem atIs_of {L M : List Gn} {m : Nat} (he : isK (all L) m = isK (all M) m) (hp : NthPos (all M)) : atIs L m (atK M m).rev (atK M m).made (atK M m).nth = true ∧ (atB M m == decide (0 < (atK M m).nth)) = true := by
  have e1 : atK L m = atK M m := by rw [atK_isK, atK_isK, he]
  have e2 : atB L m = atB M m := by rw [atB_isK, atB_isK, he]
  have e3 : (atB M m == decide (0 < (atK M m).nth)) = true := by
    rw [atB_isK, atK_isK]
    cases q : isK (all M) m with
    | nil => simp [ch0]
    | cons c l =>
      have := isK_mem (c := c) (A := all M) (m := m) (by rw [q]; simp)
      have := hp c this.1 this.2
      simp [this]
  unfold atIs
  rw [e1, e2, e3]
  simp
structure ChOk (c : Ch) : Prop where
  pos : 0 < c.rev.1
  tb : c.tomb = true → c.made = 0 ∧ c.nth = 0
  nt : c.tomb = false → 0 < c.made ∧ c.made ≤ c.rev.1 ∧ 0 < c.nth ∧ c.nth < M64
structure Link (a b : Ch) : Prop where
  tb : b.tomb = true → a.tomb = false
  nw : b.tomb = false → a.tomb = true → a.rev.1 < b.made
  nx : b.tomb = false → a.tomb = false → b.made = a.made ∧ b.nth = (a.nth + 1) % M64
  lt : a.rev.1 < b.rev.1
structure Good (A : List Ch) : Prop where
  hd : ∀ c l, A = c :: l → c.tomb = false
  ok : ∀ c, c ∈ A → ChOk c
  ln : ∀ i a b, A[i]? = some a → A[i + 1]? = some b → Link a b
theorem Good.nil : Good [] := ⟨fun _ _ h => (by cases h), fun _ h => (by cases h), fun i a b h => by simp at h⟩
theorem Good.snoc {A : List Ch} (h : Good A) {x : Ch} (h0 : A = [] → x.tomb = false) (hx : ChOk x) (hl : ∀ a, A.getLast? = some a → Link a x) : Good (A ++ [x]) := by
  refine ⟨fun c l e => ?_, fun c hc => ?_, fun i a b ha hb => ?_⟩
  · cases A with
    | nil => simp at e; rw [← e.1]; exact h0 rfl
    | cons d A => simp at e; exact h.hd c A (by rw [e.1])
  · rcases List.mem_append.1 hc with q | q
    · exact h.ok c q
    · rw [List.mem_singleton] at q; subst q; exact hx
  · rcases Nat.lt_or_ge (i + 1) A.length with q | q
    · rw [List.getElem?_append_left (by omega)] at ha
      rw [List.getElem?_append_left q] at hb
      exact h.ln i a b ha hb
    · rw [List.getElem?_append_right q] at hb
      have hi : i + 1 - A.length = 0 := by
        rcases Nat.eq_zero_or_pos (i + 1 - A.length) with e | e
        · exact e
        · rw [List.getElem?_eq_none (by simp; omega)] at hb; cases hb
      rw [hi] at hb; simp at hb; subst hb
      rw [List.getElem?_append_left (by omega)] at ha
      refine hl a ?_
      rw [List.getLast?_eq_getElem?, show A.length - 1 = i by omega]; exact ha
theorem Good.drop {A : List Ch} (h : Good A) (k : Nat) (hk : ∀ c, A[k]? = some c → c.tomb = false) : Good (A.drop k) := by
  refine ⟨fun c l e => hk c ?_, fun c hc => h.ok c (List.mem_of_mem_drop hc), fun i a b ha hb => ?_⟩
  · have := congrArg (·[0]?) e
    simpa using this
  · rw [List.getElem?_drop] at ha hb
    exact h.ln (k + i) a b ha (by rw [← hb]; congr 1)
theorem Good.comp {A : List Ch} (h : Good A) (hr : Rising A) (m : Nat) : Good (compA A m) := by
  obtain ⟨P, Q, rfl, hP, hQ⟩ := split_at m hr
  rw [comp_split hP hQ]
  rcases list_last P with rfl | ⟨Y, c, rfl⟩
  · exact h
  · unfold headK
    rw [List.getLast?_append, List.getLast?_singleton, Option.some_or]
    cases ht : c.tomb with
    | true =>
      have e : (Y ++ [c] ++ Q).drop (Y.length + 1) = Q := by
        rw [List.drop_append_of_le_length (by simp), List.drop_eq_nil_of_le (by simp)]; rfl
      simp only [ht, if_true, List.nil_append]
      have hd := h.drop (Y.length + 1) (fun x hx => ?_)
      · rwa [e] at hd
      have hl := h.ln Y.length c x (by simp) hx
      cases hxt : x.tomb with
      | false => rfl
      | true => have := hl.tb hxt; rw [ht] at this; cases this
    | false =>
      simp only [ht, Bool.false_eq_true, if_false]
      have e : (Y ++ [c] ++ Q).drop Y.length = [c] ++ Q := by
        rw [List.append_assoc, List.drop_append_of_le_length (by simp), List.drop_length]; rfl
      have hd := h.drop Y.length (fun x hx => ?_)
      · rwa [e] at hd
      rw [List.append_assoc, List.getElem?_append_right (by simp)] at hx
      simp at hx; subst hx; exact ht
theorem Good.nth {A : List Ch} (h : Good A) : NthPos A := fun c hc ht => ((h.ok c hc).nt ht).2.2.1
theorem Good.rising {A : List Ch} (h : Good A) : Rising A := by
  have key : ∀ n i a b, A[i]? = some a → A[i + 1 + n]? = some b → a.rev.1 < b.rev.1 := by
    intro n
    induction n with
    | zero => intro i a b ha hb; exact (h.ln i a b ha hb).lt
    | succ n ih =>
      intro i a b ha hb
      have hlt : i + 1 + n < A.length := by have := (List.getElem?_eq_some_iff.1 hb).1; omega
      obtain ⟨x, hx⟩ : ∃ x, A[i + 1 + n]? = some x := ⟨_, List.getElem?_eq_getElem hlt⟩
      exact Nat.lt_trans (ih i a x ha hx) (h.ln _ x b hx (by rw [← hb]; congr 1)).lt
  unfold Rising
  rw [List.pairwise_iff_getElem]
  intro i j hi hj hij
  have := key (j - (i + 1)) i A[i] A[j] (List.getElem?_eq_getElem hi) (by rw [show i + 1 + (j - (i + 1)) = j by omega]; exact List.getElem?_eq_getElem hj)
  unfold above
  simp [this]
def NthLe (n : Nat) (A : List Ch) : Prop := ∀ c, c ∈ A → c.nth ≤ n
theorem made_good (l : List Nat) (hl : l.length ≤ 1000) : Good (all (madeL l).1) ∧ NthLe l.length (all (madeL l).1) := by
  rcases list_last l with rfl | ⟨Y, b, rfl⟩
  · exact ⟨Good.nil, fun c hc => by cases hc⟩
  · rw [List.length_append] at hl
    simp only [List.length_cons, List.length_nil] at hl
    obtain ⟨hg, hn⟩ := made_good Y (by omega)
    have hmi := mi_made Y
    have e : madeL (Y ++ [b]) = madeStep (madeL Y) b := by unfold madeL; rw [List.foldl_append]; rfl
    rw [e]
    generalize madeL Y = S at hg hn hmi
    obtain ⟨mm, hmm⟩ : ∃ mm, mm = S.2 + 1 + b / 4 % 3 := ⟨_, rfl⟩
    have hle : ∀ c, c ∈ all S.1 → c.rev.1 < mm := fun c hc => by have := hmi.le c hc; omega
    have hM : M64 = 18446744073709551616 := rfl
    unfold madeStep
    simp only [← hmm]
    by_cases q : b % 4 = 0 ∧ opn S.1 = true
    · rw [if_pos q, all_tombL hmi.wf q.2]
      refine ⟨hg.snoc (fun h0 => ?_) ⟨by show 0 < mm; omega, fun _ => ⟨rfl, rfl⟩, fun h => by cases h⟩ (fun a ha => ⟨fun _ => ?_, fun h => (by cases h), fun h => (by cases h), hle a (List.mem_of_getLast? ha)⟩), fun c hc => ?_⟩
      · rw [opn_all hmi.wf, h0] at q; cases q.2
      · have := q.2
        rw [opn_all hmi.wf] at this
        unfold opnA at this
        rw [ha] at this; simpa using this
      · rcases List.mem_append.1 hc with r | r
        · have := hn c r; simp; omega
        · rw [List.mem_singleton] at r; subst r; exact Nat.zero_le _
    · rw [if_neg q, all_putL hmi.wf]
      have hx := nextA_rev (all S.1) (mm, b / 16) mm 1
      have hcase : ((all S.1).getLast? = none ∨ ∃ a, (all S.1).getLast? = some a ∧ a.tomb = true) ∧ (nextA (all S.1) (mm, b / 16) mm 1).made = mm ∧ (nextA (all S.1) (mm, b / 16) mm 1).nth = 1 ∨
          ∃ a, (all S.1).getLast? = some a ∧ a.tomb = false ∧ (nextA (all S.1) (mm, b / 16) mm 1).made = a.made ∧ (nextA (all S.1) (mm, b / 16) mm 1).nth = (a.nth + 1) % M64 := by
        unfold nextA
        cases ha : (all S.1).getLast? with
        | none => exact .inl ⟨.inl rfl, rfl, rfl⟩
        | some a =>
          cases ht : a.tomb with
          | true => exact .inl ⟨.inr ⟨a, rfl, ht⟩, by simp [ht], by simp [ht]; rfl⟩
          | false => exact .inr ⟨a, rfl, ht, by simp [ht], by simp [ht]⟩
      generalize nextA (all S.1) (mm, b / 16) mm 1 = x at hx hcase
      have hx1 : x.rev.1 = mm := by rw [hx.1]
      have hxn : x.nth ≤ Y.length + 1 := by
        rcases hcase with ⟨_, _, h1⟩ | ⟨a, ha, _, _, h1⟩
        · omega
        · have := hn a (List.mem_of_getLast? ha)
          rw [h1]; exact Nat.le_trans (Nat.mod_le _ _) (by omega)
      refine ⟨hg.snoc (fun _ => hx.2) ⟨by omega, fun h => (by rw [hx.2] at h; cases h), fun _ => ?_⟩ (fun a ha => ⟨fun h => (by rw [hx.2] at h; cases h), fun _ ht => ?_, fun _ ht => ?_, by rw [hx1]; exact hle a (List.mem_of_getLast? ha)⟩), fun c hc => ?_⟩
      · rcases hcase with ⟨_, h1, h2⟩ | ⟨a, ha, hat, h1, h2⟩
        · rw [h1, h2, hx1]; refine ⟨by omega, Nat.le_refl _, by omega, by omega⟩
        · have hao := (hg.ok a (List.mem_of_getLast? ha)).nt hat
          have hal := hle a (List.mem_of_getLast? ha)
          have han := hn a (List.mem_of_getLast? ha)
          rw [h1, h2, hx1, Nat.mod_eq_of_lt (by omega)]
          refine ⟨hao.1, by omega, by omega, by omega⟩
      · rcases hcase with ⟨_, h1, _⟩ | ⟨a', ha', hat, _, _⟩
        · rw [h1]; exact hle a (List.mem_of_getLast? ha)
        · rw [ha] at ha'; cases ha'; rw [hat] at ht; cases ht
      · rcases hcase with ⟨h0 | ⟨a', ha', hat⟩, _, _⟩ | ⟨a', ha', hat, h1, h2⟩
        · rw [ha] at h0; cases h0
        · rw [ha] at ha'; cases ha'; rw [hat] at ht; cases ht
        · rw [ha] at ha'; cases ha'; exact ⟨h1, h2⟩
      · rcases List.mem_append.1 hc with r | r
        · have := hn c r; simp; omega
        · rw [List.mem_singleton] at r; subst r; simpa using hxn
termination_by l.length
decreasing_by simp_all
def backStep (A : List Ch) (L : List Gn) (c : Ch) : List Gn :=
  if c.tomb then tombP L c.rev else restP L c.rev c.made c.nth
theorem isK_own {A : List Ch} (hg : Good A) {i : Nat} {c : Ch} (hc : A[i]? = some c) : isK A c.rev.1 = if c.tomb then [] else [c] := by
  have hr := hg.rising
  have hi : i < A.length := (List.getElem?_eq_some_iff.1 hc).1
  have hp := List.pairwise_iff_getElem.1 hr
  have e : lst (atP c.rev.1) A = some c := by
    have hs : A = A.take (i + 1) ++ A.drop (i + 1) := (List.take_append_drop _ _).symm
    have h1 : (A.take (i + 1)).filter (atP c.rev.1) = A.take (i + 1) := filter_all fun x hx => by
      obtain ⟨j, hj⟩ := List.mem_iff_getElem?.1 hx
      rw [List.getElem?_take] at hj
      split at hj
      · rename_i hji
        rcases Nat.lt_or_ge j i with q | q
        · have hj2 := (List.getElem?_eq_some_iff.1 hj)
          have hc2 := (List.getElem?_eq_some_iff.1 hc)
          have := hp j i hj2.1 hi q
          rw [hj2.2, hc2.2] at this
          exact decide_eq_true (above_le this)
        · obtain rfl : j = i := by omega
          rw [hc] at hj; cases hj; exact decide_eq_true (Nat.le_refl _)
      · cases hj
    have h2 : (A.drop (i + 1)).filter (atP c.rev.1) = [] := filter_none fun x hx => by
      obtain ⟨j, hj⟩ := List.mem_iff_getElem?.1 hx
      rw [List.getElem?_drop] at hj
      refine decide_eq_false ?_
      have key : ∀ n x, A[i + 1 + n]? = some x → c.rev.1 < x.rev.1 := by
        intro n
        induction n with
        | zero => intro x hx; exact (hg.ln i c x hc hx).lt
        | succ n ih =>
          intro x hx
          have hlt : i + 1 + n < A.length := by have := (List.getElem?_eq_some_iff.1 hx).1; omega
          obtain ⟨y, hy⟩ : ∃ y, A[i + 1 + n]? = some y := ⟨_, List.getElem?_eq_getElem hlt⟩
          exact Nat.lt_trans (ih y hy) (hg.ln _ y x hy (by rw [← hx]; congr 1)).lt
      have := key j x hj
      omega
    unfold lst
    conv => lhs; arg 1; arg 2; rw [hs]
    rw [List.filter_append, h1, h2, List.append_nil, List.take_add_one, hc]
    simp
  unfold isK
  rw [e]
theorem fit_good {A : List Ch} (hg : Good A) {i : Nat} {c : Ch} (hc : A[i]? = some c) : fitA (A.take i) c.rev = true := by
  unfold fitA
  rw [decide_eq_true ((hg.ok c (List.mem_of_getElem? hc)).pos), Bool.true_and]
  cases q : (A.take i).getLast? with
  | none => rfl
  | some d =>
    cases i with
    | zero => simp at q
    | succ i =>
      have hi : i + 1 < A.length := (List.getElem?_eq_some_iff.1 hc).1
      rw [List.getLast?_eq_getElem?, List.length_take, Nat.min_eq_left (by omega), List.getElem?_take, if_pos (by omega), Nat.add_sub_cancel] at q
      have := (hg.ln i d c q hc).lt
      simp [above, this]
theorem last_take {A : List Ch} {i : Nat} {c : Ch} (hc : A[i]? = some c) : (i = 0 ∧ (A.take i).getLast? = none) ∨ ∃ a, (A.take i).getLast? = some a ∧ ∃ j, i = j + 1 ∧ A[j]? = some a := by
  have hi : i < A.length := (List.getElem?_eq_some_iff.1 hc).1
  cases i with
  | zero => exact .inl ⟨rfl, by simp⟩
  | succ i =>
    refine .inr ⟨A[i], ?_, i, rfl, List.getElem?_eq_getElem (by omega)⟩
    rw [List.getLast?_eq_getElem?, List.length_take, Nat.min_eq_left (by omega), List.getElem?_take, if_pos (by omega), Nat.add_sub_cancel]
    exact List.getElem?_eq_getElem (by omega)
theorem rest_all (L : List Gn) (hw : WF L) (r : Rv) (made nth : Nat) : restB L r made nth = restA (all L) r made nth := by
  unfold restB restA
  rw [fits_all]
  congr 1
  rcases wf_last hw with rfl | ⟨Y, g, rfl, ⟨he, ha⟩ | ⟨he, ps, r0, hp, ha⟩⟩
  · rfl
  · rw [ha]; simp [he]
  · rw [ha]; simp [he, hp, M64, Nat.add_assoc]
theorem back_step {A : List Ch} (hg : Good A) {i : Nat} {c : Ch} (hc : A[i]? = some c) {L : List Gn} (hw : WF L) (ha : all L = A.take i) :
    (c.tomb = true → tombE L c.rev = 0 ∧ tombP L c.rev = tombL L c.rev ∧ all (tombL L c.rev) = A.take (i + 1) ∧ WF (tombL L c.rev)) ∧
    (c.tomb = false → restE L c.rev c.made c.nth = 0 ∧ restP L c.rev c.made c.nth = putL L c.rev c.made c.nth ∧ all (putL L c.rev c.made c.nth) = A.take (i + 1) ∧ WF (putL L c.rev c.made c.nth)) := by
  have hf : fitA (all L) c.rev = true := by rw [ha]; exact fit_good hg hc
  have hok := hg.ok c (List.mem_of_getElem? hc)
  have htk : A.take (i + 1) = A.take i ++ [c] := by rw [List.take_add_one, hc]; rfl
  obtain ⟨cr, cm, cn, ct⟩ := c
  refine ⟨fun ht => ?_, fun ht => ?_⟩
  · simp only at ht; subst ht
    obtain ⟨e1, e2⟩ := hok.tb rfl
    simp only at e1 e2; subst e1; subst e2
    have ho : opn L = true := by
      rw [opn_all hw, ha]
      unfold opnA
      rcases last_take hc with ⟨rfl, _⟩ | ⟨a, e, j, rfl, hj⟩
      · exfalso
        cases A with
        | nil => simp at hc
        | cons d A => simp at hc; subst hc; exact absurd (hg.hd _ A rfl) (by simp)
      · rw [e]; have := (hg.ln j a _ hj hc).tb rfl; simp [this]
    have hfb : fitsB L cr = true := by rw [fits_all]; exact hf
    refine ⟨by unfold tombE; rw [if_pos hfb, if_pos ho], by unfold tombP; rw [hfb, ho]; rfl, by rw [all_tombL hw ho, ha, htk], wf_tomb hw _⟩
  · simp only at ht; subst ht
    obtain ⟨o1, o2, o3, o4⟩ := hok.nt rfl
    simp only at o1 o2 o3 o4
    have hb : restB L cr cm cn = true := by
      rw [rest_all L hw]
      unfold restA
      rw [hf, ha, decide_eq_false (show ¬ cm = 0 by omega), decide_eq_false (show ¬ cr.1 < cm by omega), decide_eq_false (show ¬ cn = 0 by omega)]
      rcases last_take hc with ⟨rfl, e⟩ | ⟨a, e, j, rfl, hj⟩
      · rw [e]; rfl
      · rw [e]
        have hl := hg.ln j a _ hj hc
        cases hat : a.tomb with
        | true => have := hl.nw rfl hat; simp at this; simp [hat, this]
        | false => have := hl.nx rfl hat; simp at this; simp [hat, this]
    refine ⟨by unfold restE; rw [if_pos hb], by unfold restP; rw [if_pos hb], ?_, wf_put hw _ _ _⟩
    rw [all_putL hw, ha, htk]
    congr 2
    unfold nextA
    rcases last_take hc with ⟨rfl, e⟩ | ⟨a, e, j, rfl, hj⟩
    · rw [e]; simp [Nat.mod_eq_of_lt o4]
    · rw [e]
      have hl := hg.ln j a _ hj hc
      cases hat : a.tomb with
      | true => simp [hat, Nat.mod_eq_of_lt o4]
      | false => have := hl.nx rfl hat; simp at this; simp [hat, this]
theorem empty_all {L : List Gn} (hw : WF L) : L.isEmpty = (all L).isEmpty := by
  rcases wf_last hw with rfl | ⟨Y, g, rfl, ⟨he, ha⟩ | ⟨he, ps, r0, hp, ha⟩⟩
  · rfl
  · rw [ha]; rw [show (Y ++ [g]).isEmpty = false by cases Y <;> rfl]; symm; rw [List.isEmpty_eq_false_iff]; simp
  · rw [ha]; rw [show (Y ++ [g]).isEmpty = false by cases Y <;> rfl]; symm; rw [List.isEmpty_eq_false_iff]; simp
end
end Go.Proofs.Ytlkngpckibidlaa.W

namespace Go.Proofs.Ytlkngpckibidlaa.W
open Go Go.AX
noncomputable section
set_option maxRecDepth 100000
theorem boxed (h1 : H) (s1 : AV) : ∃ h2, h2 = (h1.newCells 26 [.nilslice]).sts h1.nx 0 [s1] ∧ Only h1 h2 [] ∧ h2.nx = h1.nx + 1 ∧ cellAt h2 h1.nx 0 = some s1 ∧ wrAt h2 h1.nx = true := by
  refine ⟨_, rfl, ((Only.refl _ _).new _ _).sts (.inr (Nat.le_refl _)), by rw [nx_sts, nx_new], ?_, ?_⟩
  · simp only [B, xB, F, Nat.reduceLT, Nat.reduceLeDiff, Nat.reduceEqDiff, Nat.reduceAdd, Nat.reduceMul, Nat.reduceSub, ↓reduceIte, eq_self]
  · simp only [B, xB, F, Nat.reduceLT, Nat.reduceLeDiff, Nat.reduceEqDiff, Nat.reduceAdd, Nat.reduceMul, Nat.reduceSub, ↓reduceIte, eq_self]
theorem _root_.Go.AX.Only.t {h h' h'' : H} (a : Only h h' []) (b : Only h' h'' []) : Only h h'' [] := a.trans b (fun _ h => h) (fun _ h => by cases h)
structure CpI (hs : H) (b7 b10 b12 b14 c d : Nat) (n : Nat) (ds : List Nat) (tm : T AV) (h : H) (m : Nat) : Prop where
  ds : ds = []
  nn : n = 140 - m
  mm : c ≤ m ∧ m ≤ 140
  t7 : tm.get 7 = some (.ptr b7 0)
  t10 : tm.get 10 = some (.ptr b10 0)
  t12 : tm.get 12 = some (.ptr b12 0)
  t14 : tm.get 14 = some (.ptr b14 0)
  t9 : tm.get 9 = some (.int .u64 (.ofNat d))
  t16 : tm.get 16 = some (.int .u64 (.ofNat m))
  oo : Only hs h []
set_option maxHeartbeats 1000000 in
theorem compactR (h : H) (tm : T AV) (s : AV) (L : List Gn) (c d b7 : Nat) (hcd : c ≤ d) (hd : d < 130) (t7 : tm.get 7 = some (.ptr b7 0)) (t8 : tm.get 8 = some (.int .u64 (.ofNat c))) (t9 : tm.get 9 = some (.int .u64 (.ofNat d)))
    (c7 : cellAt h b7 0 = some s) (hb7 : b7 < h.nx) (hg : GensAt h (.agg [s]) L) (hz : Sz 40 L) (hgood : Good (all L)) : codeW P 3 131 none (codeI (bodyC Try.f3) [1, 1, 1, 1, 1]) [] tm h (retK P Try.f3 PostTrue) := by
  have hr := hgood.rising
  have hz1 : Sz 1000 L := hz.le (by omega)
  obtain ⟨L1, hL1⟩ : ∃ L1, L1 = compL L c := ⟨_, rfl⟩
  obtain ⟨L2, hL2⟩ : ∃ L2, L2 = compL L1 d := ⟨_, rfl⟩
  obtain ⟨L3, hL3⟩ : ∃ L3, L3 = compL L d := ⟨_, rfl⟩
  have a1 : all L1 = compA (all L) c := by rw [hL1]; exact all_compL c hr
  have g1 : Good (all L1) := by rw [a1]; exact hgood.comp hr c
  have a2 : all L2 = compA (all L1) d := by rw [hL2]; exact all_compL d g1.rising
  have a3 : all L3 = compA (all L) d := by rw [hL3]; exact all_compL d hr
  have g3 : Good (all L3) := by rw [a3]; exact hgood.comp hr d
  have a23 : all L2 = all L3 := by rw [a2, a1, a3]; exact compA_comp hr hcd
  have z1 : Sz 1000 L1 := by rw [hL1]; exact sz_comp hz1 c
  have z2 : Sz 1000 L2 := by rw [hL2]; exact sz_comp z1 d
  have z3 : Sz 1000 L3 := by rw [hL3]; exact sz_comp hz1 d
  have kk : compK L1 d = compK L d := by rw [compK_isK, compK_isK, a1, isK_comp hr hcd]
  have k1l : (compK L c).length ≤ 1 := by rw [compK_isK, List.length_map]; exact isK_len _ _
  have k2l : (compK L1 d).length ≤ 4000000000000 := by rw [compK_isK, List.length_map]; exact Nat.le_trans (isK_len _ _) (by omega)
  have s1 : sinceL (c + 1) (all L1) = sinceL (c + 1) (all L) := by rw [a1]; exact since_comp hr c
  have slen : ∀ m M, Sz 1000 M → (sinceL m (all M)).length ≤ 4000000000000 := fun m M hM => by
    have q1 := since_len m (all M)
    have q2 := all_len hM.2
    have q3 : M.length * (1000 + 1) ≤ 1000 * (1000 + 1) := Nat.mul_le_mul_right _ hM.1
    omega
  have d1 : decide (1 < (compK L c).length) = false := decide_eq_false (by omega)
  have w1 : wrapF .u64 (Int.ofNat c + Int.ofNat 1) = Int.ofNat (c + 1) := u64_add (by omega)
  repeat' (first
    | ((with_reducible show codeW _ _ _ _ (codeI _ _) _ _ _ _); first | (apply st_seq; exact rfl) | (refine st_reg ?_ rfl rfl ?_; exact rfl; (conv => arg 4; whnf); (conv => arg 3; whnf)) | (refine st_dp ord3_0 ?_ rfl rfl ?_; exact rfl; (conv => arg 4; whnf); (conv => arg 3; whnf)) | (refine st_dw ?_ rfl rfl ?_ ?_; exact rfl; kernel_rfl; (conv => arg 5; whnf); (conv => arg 3; whnf)) | (refine st_cond ?_ rfl ?_; exact rfl; (conv => arg 1; arg 2; whnf)) | (refine st_block ?_ rfl ?_; exact rfl; (conv => arg 9; arg 1; whnf)) | (apply st_skip; exact rfl) | (refine st_exit ?_ rfl ?_; exact rfl; (conv in exitId _ => whnf)) | (apply st_ret; exact rfl))
    | ((with_reducible refine retW_intro rfl ?_); (conv => arg 2; whnf))
    | ((with_reducible refine ifB_split (fun hb => ?_) (fun hb => ?_)) <;> (try rw [Bool.not_true] at hb) <;> (try rw [Bool.not_false] at hb) <;> (try simp only [hb]))
    | ((with_reducible refine gW_split (fun hb => ?_) (fun hb => ?_)) <;> (try rw [Bool.not_true] at hb) <;> (try rw [Bool.not_false] at hb) <;> (try simp only [hb]))
    | ((with_reducible refine gX_split (fun hb => ?_) (fun hb => ?_)) <;> (try rw [Bool.not_true] at hb) <;> (try rw [Bool.not_false] at hb) <;> (try simp only [hb]))
    | ((with_reducible show drawP _ _ _ _ _ _ _ _ _); first | (apply kP_rd; exact rfl; exact rfl) | (apply kP_rg; exact rfl; exact rfl; exact rfl) | (apply kP_cv; exact rfl; exact rfl; kernel_rfl) | (apply kP_al; exact rfl; exact rfl; exact rfl) | (apply kP_ex; exact rfl; exact rfl; kernel_rfl; exact rfl) | (apply kP_eg; exact rfl; exact rfl; kernel_rfl; exact rfl) | (apply kP_nl))
    | ((with_reducible show drawI _ _ _ _ _ _ _ _ _); first | (apply kI_rd; exact rfl) | (apply kI_rg; exact rfl; exact rfl) | (apply kI_cv; exact rfl; kernel_rfl) | (apply kI_al; exact rfl; exact rfl) | (apply kI_ex; exact rfl; kernel_rfl; exact rfl) | (apply kI_eg; exact rfl; kernel_rfl; exact rfl) | (apply kI_nl))
    | ((with_reducible show eOk _ _ _ _ _ _); first | (exact eok_nil) | (apply ke_rd; exact rfl) | (apply ke_rg; exact rfl; exact rfl) | (apply ke_cv; exact rfl; kernel_rfl) | (apply ke_al; exact rfl; exact rfl))
    | ((with_reducible apply freshIs_new); kernel_rfl)
    | (simp only [B, xB, F, Nat.reduceLT, Nat.reduceLeDiff, Nat.reduceEqDiff, Nat.reduceAdd, Nat.reduceMul, Nat.reduceSub, ↓reduceIte, eq_self, t7, t8, c7]))
  -- compacted at the first
  refine ((compC (fun _ => True) h _ L c (fun _ _ => trivial) hg hz1).call P).mono P ?_
  rintro v hA ⟨oA, gv, k1, rfl, hgA, gr1⟩
  rw [← hL1] at hgA
  obtain ⟨x1, rfl, o1, e1⟩ := hgA.val
  obtain ⟨hB, hBe, oB, xB1, c10, -⟩ := boxed hA x1
  have xA := oA.1
  have go1 := gr1.one
  have gc1 := gr1.cells
  have l1 := gr1.len (P := P) u29
  first | replace c7 := kcell c7 oA (by omega) (by simp) | replace c7 := kwr c7 oA (by omega) (by simp)
  first | replace c7 := kcell c7 oB (by omega) (by simp) | replace c7 := kwr c7 oB (by omega) (by simp)
  have hgB := hgA.at.keep oB
  have hg := (hg.keep oA).keep oB
  repeat' (first
    | ((with_reducible show codeW _ _ _ _ (codeI _ _) _ _ _ _); first | (apply st_seq; exact rfl) | (refine st_reg ?_ rfl rfl ?_; exact rfl; (conv => arg 4; whnf); (conv => arg 3; whnf)) | (refine st_dp ord3_0 ?_ rfl rfl ?_; exact rfl; (conv => arg 4; whnf); (conv => arg 3; whnf)) | (refine st_dw ?_ rfl rfl ?_ ?_; exact rfl; kernel_rfl; (conv => arg 5; whnf); (conv => arg 3; whnf)) | (refine st_cond ?_ rfl ?_; exact rfl; (conv => arg 1; arg 2; whnf)) | (refine st_block ?_ rfl ?_; exact rfl; (conv => arg 9; arg 1; whnf)) | (apply st_skip; exact rfl) | (refine st_exit ?_ rfl ?_; exact rfl; (conv in exitId _ => whnf)) | (apply st_ret; exact rfl))
    | ((with_reducible refine retW_intro rfl ?_); (conv => arg 2; whnf))
    | ((with_reducible refine ifB_split (fun hb => ?_) (fun hb => ?_)) <;> (try rw [Bool.not_true] at hb) <;> (try rw [Bool.not_false] at hb) <;> (try simp only [hb]))
    | ((with_reducible refine gW_split (fun hb => ?_) (fun hb => ?_)) <;> (try rw [Bool.not_true] at hb) <;> (try rw [Bool.not_false] at hb) <;> (try simp only [hb]))
    | ((with_reducible refine gX_split (fun hb => ?_) (fun hb => ?_)) <;> (try rw [Bool.not_true] at hb) <;> (try rw [Bool.not_false] at hb) <;> (try simp only [hb]))
    | ((with_reducible show drawP _ _ _ _ _ _ _ _ _); first | (apply kP_rd; exact rfl; exact rfl) | (apply kP_rg; exact rfl; exact rfl; exact rfl) | (apply kP_cv; exact rfl; exact rfl; kernel_rfl) | (apply kP_al; exact rfl; exact rfl; exact rfl) | (apply kP_ex; exact rfl; exact rfl; kernel_rfl; exact rfl) | (apply kP_eg; exact rfl; exact rfl; kernel_rfl; exact rfl) | (apply kP_nl))
    | ((with_reducible show drawI _ _ _ _ _ _ _ _ _); first | (apply kI_rd; exact rfl) | (apply kI_rg; exact rfl; exact rfl) | (apply kI_cv; exact rfl; kernel_rfl) | (apply kI_al; exact rfl; exact rfl) | (apply kI_ex; exact rfl; kernel_rfl; exact rfl) | (apply kI_eg; exact rfl; kernel_rfl; exact rfl) | (apply kI_nl))
    | ((with_reducible show eOk _ _ _ _ _ _); first | (exact eok_nil) | (apply ke_rd; exact rfl) | (apply ke_rg; exact rfl; exact rfl) | (apply ke_cv; exact rfl; kernel_rfl) | (apply ke_al; exact rfl; exact rfl))
    | ((with_reducible apply freshIs_new); kernel_rfl)
    | (simp only [B, xB, F, Nat.reduceLT, Nat.reduceLeDiff, Nat.reduceEqDiff, Nat.reduceAdd, Nat.reduceMul, Nat.reduceSub, ↓reduceIte, eq_self, o1, e1, go1, gc1, c10, t9, xB1, ← hBe]))
  refine ((compC (fun _ => True) hB _ L1 d (fun _ _ => trivial) hgB z1).call P).mono P ?_
  rintro v hC ⟨oC, gv, k2, rfl, hgC, gr2⟩
  rw [← hL2] at hgC
  obtain ⟨x2, rfl, o2, e2⟩ := hgC.val
  obtain ⟨hD, hDe, oD, xD, c12, -⟩ := boxed hC x2
  have xC := oC.1
  have go2 := gr2.one
  have gc2 := gr2.cells
  have sk2 := gr2.slice.only oD (fun _ _ => by simp)
  first | replace c7 := kcell c7 oC (by omega) (by simp) | replace c7 := kwr c7 oC (by omega) (by simp)
  first | replace c10 := kcell c10 oC (by omega) (by simp) | replace c10 := kwr c10 oC (by omega) (by simp)
  first | replace c7 := kcell c7 oD (by omega) (by simp) | replace c7 := kwr c7 oD (by omega) (by simp)
  first | replace c10 := kcell c10 oD (by omega) (by simp) | replace c10 := kwr c10 oD (by omega) (by simp)
  have hgD := hgC.at.keep oD
  have hgB := (hgB.keep oC).keep oD
  have hg := (hg.keep oC).keep oD
  repeat' (first
    | ((with_reducible show codeW _ _ _ _ (codeI _ _) _ _ _ _); first | (apply st_seq; exact rfl) | (refine st_reg ?_ rfl rfl ?_; exact rfl; (conv => arg 4; whnf); (conv => arg 3; whnf)) | (refine st_dp ord3_0 ?_ rfl rfl ?_; exact rfl; (conv => arg 4; whnf); (conv => arg 3; whnf)) | (refine st_dw ?_ rfl rfl ?_ ?_; exact rfl; kernel_rfl; (conv => arg 5; whnf); (conv => arg 3; whnf)) | (refine st_cond ?_ rfl ?_; exact rfl; (conv => arg 1; arg 2; whnf)) | (refine st_block ?_ rfl ?_; exact rfl; (conv => arg 9; arg 1; whnf)) | (apply st_skip; exact rfl) | (refine st_exit ?_ rfl ?_; exact rfl; (conv in exitId _ => whnf)) | (apply st_ret; exact rfl))
    | ((with_reducible refine retW_intro rfl ?_); (conv => arg 2; whnf))
    | ((with_reducible refine ifB_split (fun hb => ?_) (fun hb => ?_)) <;> (try rw [Bool.not_true] at hb) <;> (try rw [Bool.not_false] at hb) <;> (try simp only [hb]))
    | ((with_reducible refine gW_split (fun hb => ?_) (fun hb => ?_)) <;> (try rw [Bool.not_true] at hb) <;> (try rw [Bool.not_false] at hb) <;> (try simp only [hb]))
    | ((with_reducible refine gX_split (fun hb => ?_) (fun hb => ?_)) <;> (try rw [Bool.not_true] at hb) <;> (try rw [Bool.not_false] at hb) <;> (try simp only [hb]))
    | ((with_reducible show drawP _ _ _ _ _ _ _ _ _); first | (apply kP_rd; exact rfl; exact rfl) | (apply kP_rg; exact rfl; exact rfl; exact rfl) | (apply kP_cv; exact rfl; exact rfl; kernel_rfl) | (apply kP_al; exact rfl; exact rfl; exact rfl) | (apply kP_ex; exact rfl; exact rfl; kernel_rfl; exact rfl) | (apply kP_eg; exact rfl; exact rfl; kernel_rfl; exact rfl) | (apply kP_nl))
    | ((with_reducible show drawI _ _ _ _ _ _ _ _ _); first | (apply kI_rd; exact rfl) | (apply kI_rg; exact rfl; exact rfl) | (apply kI_cv; exact rfl; kernel_rfl) | (apply kI_al; exact rfl; exact rfl) | (apply kI_ex; exact rfl; kernel_rfl; exact rfl) | (apply kI_eg; exact rfl; kernel_rfl; exact rfl) | (apply kI_nl))
    | ((with_reducible show eOk _ _ _ _ _ _); first | (exact eok_nil) | (apply ke_rd; exact rfl) | (apply ke_rg; exact rfl; exact rfl) | (apply ke_cv; exact rfl; kernel_rfl) | (apply ke_al; exact rfl; exact rfl))
    | ((with_reducible apply freshIs_new); kernel_rfl)
    | (simp only [B, xB, F, Nat.reduceLT, Nat.reduceLeDiff, Nat.reduceEqDiff, Nat.reduceAdd, Nat.reduceMul, Nat.reduceSub, ↓reduceIte, eq_self, o2, e2, go2, gc2, c7, t7, t9, xD, ← hDe]))
  refine ((compC (fun _ => True) hD _ L d (fun _ _ => trivial) hg hz1).call P).mono P ?_
  rintro v hE ⟨oE, gv, k3, rfl, hgE, gr3⟩
  rw [← hL3] at hgE
  obtain ⟨x3, rfl, o3, e3⟩ := hgE.val
  obtain ⟨hF, hFe, oF, xF, c14, -⟩ := boxed hE x3
  have xE := oE.1
  have go3 := gr3.one
  have gc3 := gr3.cells
  have sk3 := gr3.slice.only oF (fun _ _ => by simp)
  have sk2 := (sk2.only oE (fun _ _ => by simp)).only oF (fun _ _ => by simp)
  first | replace c7 := kcell c7 oE (by omega) (by simp) | replace c7 := kwr c7 oE (by omega) (by simp)
  first | replace c10 := kcell c10 oE (by omega) (by simp) | replace c10 := kwr c10 oE (by omega) (by simp)
  first | replace c12 := kcell c12 oE (by omega) (by simp) | replace c12 := kwr c12 oE (by omega) (by simp)
  first | replace c7 := kcell c7 oF (by omega) (by simp) | replace c7 := kwr c7 oF (by omega) (by simp)
  first | replace c10 := kcell c10 oF (by omega) (by simp) | replace c10 := kwr c10 oF (by omega) (by simp)
  first | replace c12 := kcell c12 oF (by omega) (by simp) | replace c12 := kwr c12 oF (by omega) (by simp)
  have hgF := hgE.at.keep oF
  have hgD := (hgD.keep oE).keep oF
  have hgB := (hgB.keep oE).keep oF
  have hg := (hg.keep oE).keep oF
  repeat' (first
    | ((with_reducible show codeW _ _ _ _ (codeI _ _) _ _ _ _); first | (apply st_seq; exact rfl) | (refine st_reg ?_ rfl rfl ?_; exact rfl; (conv => arg 4; whnf); (conv => arg 3; whnf)) | (refine st_dp ord3_0 ?_ rfl rfl ?_; exact rfl; (conv => arg 4; whnf); (conv => arg 3; whnf)) | (refine st_dw ?_ rfl rfl ?_ ?_; exact rfl; kernel_rfl; (conv => arg 5; whnf); (conv => arg 3; whnf)) | (refine st_cond ?_ rfl ?_; exact rfl; (conv => arg 1; arg 2; whnf)) | (refine st_block ?_ rfl ?_; exact rfl; (conv => arg 9; arg 1; whnf)) | (apply st_skip; exact rfl) | (refine st_exit ?_ rfl ?_; exact rfl; (conv in exitId _ => whnf)) | (apply st_ret; exact rfl))
    | ((with_reducible refine retW_intro rfl ?_); (conv => arg 2; whnf))
    | ((with_reducible refine ifB_split (fun hb => ?_) (fun hb => ?_)) <;> (try rw [Bool.not_true] at hb) <;> (try rw [Bool.not_false] at hb) <;> (try simp only [hb]))
    | ((with_reducible refine gW_split (fun hb => ?_) (fun hb => ?_)) <;> (try rw [Bool.not_true] at hb) <;> (try rw [Bool.not_false] at hb) <;> (try simp only [hb]))
    | ((with_reducible refine gX_split (fun hb => ?_) (fun hb => ?_)) <;> (try rw [Bool.not_true] at hb) <;> (try rw [Bool.not_false] at hb) <;> (try simp only [hb]))
    | ((with_reducible show drawP _ _ _ _ _ _ _ _ _); first | (apply kP_rd; exact rfl; exact rfl) | (apply kP_rg; exact rfl; exact rfl; exact rfl) | (apply kP_cv; exact rfl; exact rfl; kernel_rfl) | (apply kP_al; exact rfl; exact rfl; exact rfl) | (apply kP_ex; exact rfl; exact rfl; kernel_rfl; exact rfl) | (apply kP_eg; exact rfl; exact rfl; kernel_rfl; exact rfl) | (apply kP_nl))
    | ((with_reducible show drawI _ _ _ _ _ _ _ _ _); first | (apply kI_rd; exact rfl) | (apply kI_rg; exact rfl; exact rfl) | (apply kI_cv; exact rfl; kernel_rfl) | (apply kI_al; exact rfl; exact rfl) | (apply kI_ex; exact rfl; kernel_rfl; exact rfl) | (apply kI_eg; exact rfl; kernel_rfl; exact rfl) | (apply kI_nl))
    | ((with_reducible show eOk _ _ _ _ _ _); first | (exact eok_nil) | (apply ke_rd; exact rfl) | (apply ke_rg; exact rfl; exact rfl) | (apply ke_cv; exact rfl; kernel_rfl) | (apply ke_al; exact rfl; exact rfl))
    | ((with_reducible apply freshIs_new); kernel_rfl)
    | (simp only [B, xB, F, Nat.reduceLT, Nat.reduceLeDiff, Nat.reduceEqDiff, Nat.reduceAdd, Nat.reduceMul, Nat.reduceSub, ↓reduceIte, eq_self, o3, e3, go3, gc3, t7, t8, c7, c10, l1, d1, xF, ← hFe]))
  refine ((revsC hF k2 k3 _ _ sk2 sk3 k2l).call P).mono P ?_
  rintro v hG ⟨rfl, oG⟩
  rw [decide_eq_true kk]
  have gp := gr1.one
  have xoG := oG.1
  first | replace c7 := kcell c7 oG (by omega) (by simp) | replace c7 := kwr c7 oG (by omega) (by simp)
  first | replace c10 := kcell c10 oG (by omega) (by simp) | replace c10 := kwr c10 oG (by omega) (by simp)
  first | replace c12 := kcell c12 oG (by omega) (by simp) | replace c12 := kwr c12 oG (by omega) (by simp)
  first | replace c14 := kcell c14 oG (by omega) (by simp) | replace c14 := kwr c14 oG (by omega) (by simp)
  replace hgF := hgF.keep oG
  replace hgD := hgD.keep oG
  replace hgB := hgB.keep oG
  replace hg := hg.keep oG
  repeat' (first
    | ((with_reducible show codeW _ _ _ _ (codeI _ _) _ _ _ _); first | (apply st_seq; exact rfl) | (refine st_reg ?_ rfl rfl ?_; exact rfl; (conv => arg 4; whnf); (conv => arg 3; whnf)) | (refine st_dp ord3_0 ?_ rfl rfl ?_; exact rfl; (conv => arg 4; whnf); (conv => arg 3; whnf)) | (refine st_dw ?_ rfl rfl ?_ ?_; exact rfl; kernel_rfl; (conv => arg 5; whnf); (conv => arg 3; whnf)) | (refine st_cond ?_ rfl ?_; exact rfl; (conv => arg 1; arg 2; whnf)) | (refine st_block ?_ rfl ?_; exact rfl; (conv => arg 9; arg 1; whnf)) | (apply st_skip; exact rfl) | (refine st_exit ?_ rfl ?_; exact rfl; (conv in exitId _ => whnf)) | (apply st_ret; exact rfl))
    | ((with_reducible refine retW_intro rfl ?_); (conv => arg 2; whnf))
    | ((with_reducible refine ifB_split (fun hb => ?_) (fun hb => ?_)) <;> (try rw [Bool.not_true] at hb) <;> (try rw [Bool.not_false] at hb) <;> (try simp only [hb]))
    | ((with_reducible refine gW_split (fun hb => ?_) (fun hb => ?_)) <;> (try rw [Bool.not_true] at hb) <;> (try rw [Bool.not_false] at hb) <;> (try simp only [hb]))
    | ((with_reducible refine gX_split (fun hb => ?_) (fun hb => ?_)) <;> (try rw [Bool.not_true] at hb) <;> (try rw [Bool.not_false] at hb) <;> (try simp only [hb]))
    | ((with_reducible show drawP _ _ _ _ _ _ _ _ _); first | (apply kP_rd; exact rfl; exact rfl) | (apply kP_rg; exact rfl; exact rfl; exact rfl) | (apply kP_cv; exact rfl; exact rfl; kernel_rfl) | (apply kP_al; exact rfl; exact rfl; exact rfl) | (apply kP_ex; exact rfl; exact rfl; kernel_rfl; exact rfl) | (apply kP_eg; exact rfl; exact rfl; kernel_rfl; exact rfl) | (apply kP_nl))
    | ((with_reducible show drawI _ _ _ _ _ _ _ _ _); first | (apply kI_rd; exact rfl) | (apply kI_rg; exact rfl; exact rfl) | (apply kI_cv; exact rfl; kernel_rfl) | (apply kI_al; exact rfl; exact rfl) | (apply kI_ex; exact rfl; kernel_rfl; exact rfl) | (apply kI_eg; exact rfl; kernel_rfl; exact rfl) | (apply kI_nl))
    | ((with_reducible show eOk _ _ _ _ _ _); first | (exact eok_nil) | (apply ke_rd; exact rfl) | (apply ke_rg; exact rfl; exact rfl) | (apply ke_cv; exact rfl; kernel_rfl) | (apply ke_al; exact rfl; exact rfl))
    | ((with_reducible apply freshIs_new); kernel_rfl)
    | (simp only [B, xB, F, Nat.reduceLT, Nat.reduceLeDiff, Nat.reduceEqDiff, Nat.reduceAdd, Nat.reduceMul, Nat.reduceSub, ↓reduceIte, eq_self, t7, t8, c7, c10, w1]))
  refine ((sinceC hG _ L1 (c + 1) hgB z1).call P).mono P ?_
  rintro q1 hH ⟨oH, gq1⟩
  have xoH := oH.1
  first | replace c7 := kcell c7 oH (by omega) (by simp) | replace c7 := kwr c7 oH (by omega) (by simp)
  first | replace c10 := kcell c10 oH (by omega) (by simp) | replace c10 := kwr c10 oH (by omega) (by simp)
  first | replace c12 := kcell c12 oH (by omega) (by simp) | replace c12 := kwr c12 oH (by omega) (by simp)
  first | replace c14 := kcell c14 oH (by omega) (by simp) | replace c14 := kwr c14 oH (by omega) (by simp)
  replace hgF := hgF.keep oH
  replace hgD := hgD.keep oH
  replace hgB := hgB.keep oH
  replace hg := hg.keep oH
  repeat' (first
    | ((with_reducible show codeW _ _ _ _ (codeI _ _) _ _ _ _); first | (apply st_seq; exact rfl) | (refine st_reg ?_ rfl rfl ?_; exact rfl; (conv => arg 4; whnf); (conv => arg 3; whnf)) | (refine st_dp ord3_0 ?_ rfl rfl ?_; exact rfl; (conv => arg 4; whnf); (conv => arg 3; whnf)) | (refine st_dw ?_ rfl rfl ?_ ?_; exact rfl; kernel_rfl; (conv => arg 5; whnf); (conv => arg 3; whnf)) | (refine st_cond ?_ rfl ?_; exact rfl; (conv => arg 1; arg 2; whnf)) | (refine st_block ?_ rfl ?_; exact rfl; (conv => arg 9; arg 1; whnf)) | (apply st_skip; exact rfl) | (refine st_exit ?_ rfl ?_; exact rfl; (conv in exitId _ => whnf)) | (apply st_ret; exact rfl))
    | ((with_reducible refine retW_intro rfl ?_); (conv => arg 2; whnf))
    | ((with_reducible refine ifB_split (fun hb => ?_) (fun hb => ?_)) <;> (try rw [Bool.not_true] at hb) <;> (try rw [Bool.not_false] at hb) <;> (try simp only [hb]))
    | ((with_reducible refine gW_split (fun hb => ?_) (fun hb => ?_)) <;> (try rw [Bool.not_true] at hb) <;> (try rw [Bool.not_false] at hb) <;> (try simp only [hb]))
    | ((with_reducible refine gX_split (fun hb => ?_) (fun hb => ?_)) <;> (try rw [Bool.not_true] at hb) <;> (try rw [Bool.not_false] at hb) <;> (try simp only [hb]))
    | ((with_reducible show drawP _ _ _ _ _ _ _ _ _); first | (apply kP_rd; exact rfl; exact rfl) | (apply kP_rg; exact rfl; exact rfl; exact rfl) | (apply kP_cv; exact rfl; exact rfl; kernel_rfl) | (apply kP_al; exact rfl; exact rfl; exact rfl) | (apply kP_ex; exact rfl; exact rfl; kernel_rfl; exact rfl) | (apply kP_eg; exact rfl; exact rfl; kernel_rfl; exact rfl) | (apply kP_nl))
    | ((with_reducible show drawI _ _ _ _ _ _ _ _ _); first | (apply kI_rd; exact rfl) | (apply kI_rg; exact rfl; exact rfl) | (apply kI_cv; exact rfl; kernel_rfl) | (apply kI_al; exact rfl; exact rfl) | (apply kI_ex; exact rfl; kernel_rfl; exact rfl) | (apply kI_eg; exact rfl; kernel_rfl; exact rfl) | (apply kI_nl))
    | ((with_reducible show eOk _ _ _ _ _ _); first | (exact eok_nil) | (apply ke_rd; exact rfl) | (apply ke_rg; exact rfl; exact rfl) | (apply ke_cv; exact rfl; kernel_rfl) | (apply ke_al; exact rfl; exact rfl))
    | ((with_reducible apply freshIs_new); kernel_rfl)
    | (simp only [B, xB, F, Nat.reduceLT, Nat.reduceLeDiff, Nat.reduceEqDiff, Nat.reduceAdd, Nat.reduceMul, Nat.reduceSub, ↓reduceIte, eq_self, t7, t8, c7, c10, w1]))
  refine ((sinceC hH _ L (c + 1) hg hz1).call P).mono P ?_
  rintro q2 hI ⟨oI, gq2⟩
  have xoI := oI.1
  first | replace c7 := kcell c7 oI (by omega) (by simp) | replace c7 := kwr c7 oI (by omega) (by simp)
  first | replace c10 := kcell c10 oI (by omega) (by simp) | replace c10 := kwr c10 oI (by omega) (by simp)
  first | replace c12 := kcell c12 oI (by omega) (by simp) | replace c12 := kwr c12 oI (by omega) (by simp)
  first | replace c14 := kcell c14 oI (by omega) (by simp) | replace c14 := kwr c14 oI (by omega) (by simp)
  replace hgF := hgF.keep oI
  replace hgD := hgD.keep oI
  replace hgB := hgB.keep oI
  replace hg := hg.keep oI
  repeat' (first
    | ((with_reducible show codeW _ _ _ _ (codeI _ _) _ _ _ _); first | (apply st_seq; exact rfl) | (refine st_reg ?_ rfl rfl ?_; exact rfl; (conv => arg 4; whnf); (conv => arg 3; whnf)) | (refine st_dp ord3_0 ?_ rfl rfl ?_; exact rfl; (conv => arg 4; whnf); (conv => arg 3; whnf)) | (refine st_dw ?_ rfl rfl ?_ ?_; exact rfl; kernel_rfl; (conv => arg 5; whnf); (conv => arg 3; whnf)) | (refine st_cond ?_ rfl ?_; exact rfl; (conv => arg 1; arg 2; whnf)) | (refine st_block ?_ rfl ?_; exact rfl; (conv => arg 9; arg 1; whnf)) | (apply st_skip; exact rfl) | (refine st_exit ?_ rfl ?_; exact rfl; (conv in exitId _ => whnf)) | (apply st_ret; exact rfl))
    | ((with_reducible refine retW_intro rfl ?_); (conv => arg 2; whnf))
    | ((with_reducible refine ifB_split (fun hb => ?_) (fun hb => ?_)) <;> (try rw [Bool.not_true] at hb) <;> (try rw [Bool.not_false] at hb) <;> (try simp only [hb]))
    | ((with_reducible refine gW_split (fun hb => ?_) (fun hb => ?_)) <;> (try rw [Bool.not_true] at hb) <;> (try rw [Bool.not_false] at hb) <;> (try simp only [hb]))
    | ((with_reducible refine gX_split (fun hb => ?_) (fun hb => ?_)) <;> (try rw [Bool.not_true] at hb) <;> (try rw [Bool.not_false] at hb) <;> (try simp only [hb]))
    | ((with_reducible show drawP _ _ _ _ _ _ _ _ _); first | (apply kP_rd; exact rfl; exact rfl) | (apply kP_rg; exact rfl; exact rfl; exact rfl) | (apply kP_cv; exact rfl; exact rfl; kernel_rfl) | (apply kP_al; exact rfl; exact rfl; exact rfl) | (apply kP_ex; exact rfl; exact rfl; kernel_rfl; exact rfl) | (apply kP_eg; exact rfl; exact rfl; kernel_rfl; exact rfl) | (apply kP_nl))
    | ((with_reducible show drawI _ _ _ _ _ _ _ _ _); first | (apply kI_rd; exact rfl) | (apply kI_rg; exact rfl; exact rfl) | (apply kI_cv; exact rfl; kernel_rfl) | (apply kI_al; exact rfl; exact rfl) | (apply kI_ex; exact rfl; kernel_rfl; exact rfl) | (apply kI_eg; exact rfl; kernel_rfl; exact rfl) | (apply kI_nl))
    | ((with_reducible show eOk _ _ _ _ _ _); first | (exact eok_nil) | (apply ke_rd; exact rfl) | (apply ke_rg; exact rfl; exact rfl) | (apply ke_cv; exact rfl; kernel_rfl) | (apply ke_al; exact rfl; exact rfl))
    | ((with_reducible apply freshIs_new); kernel_rfl)
    | (simp only [B, xB, F, Nat.reduceLT, Nat.reduceLeDiff, Nat.reduceEqDiff, Nat.reduceAdd, Nat.reduceMul, Nat.reduceSub, ↓reduceIte, eq_self, t7, t8, c7, c10, w1]))
  refine ((revsC hI q1 q2 _ _ (gq1.slice.only oI (fun _ _ => by simp)) gq2.slice (slen _ _ z1)).call P).mono P ?_
  rintro v hJ ⟨rfl, oJ⟩
  rw [decide_eq_true s1]
  have xoJ := oJ.1
  first | replace c7 := kcell c7 oJ (by omega) (by simp) | replace c7 := kwr c7 oJ (by omega) (by simp)
  first | replace c10 := kcell c10 oJ (by omega) (by simp) | replace c10 := kwr c10 oJ (by omega) (by simp)
  first | replace c12 := kcell c12 oJ (by omega) (by simp) | replace c12 := kwr c12 oJ (by omega) (by simp)
  first | replace c14 := kcell c14 oJ (by omega) (by simp) | replace c14 := kwr c14 oJ (by omega) (by simp)
  replace hgF := hgF.keep oJ
  replace hgD := hgD.keep oJ
  replace hgB := hgB.keep oJ
  replace hg := hg.keep oJ
  repeat' (first
    | ((with_reducible show codeW _ _ _ _ (codeI _ _) _ _ _ _); first | (apply st_seq; exact rfl) | (refine st_reg ?_ rfl rfl ?_; exact rfl; (conv => arg 4; whnf); (conv => arg 3; whnf)) | (refine st_dp ord3_0 ?_ rfl rfl ?_; exact rfl; (conv => arg 4; whnf); (conv => arg 3; whnf)) | (refine st_dw ?_ rfl rfl ?_ ?_; exact rfl; kernel_rfl; (conv => arg 5; whnf); (conv => arg 3; whnf)) | (refine st_cond ?_ rfl ?_; exact rfl; (conv => arg 1; arg 2; whnf)) | (refine st_block ?_ rfl ?_; exact rfl; (conv => arg 9; arg 1; whnf)) | (apply st_skip; exact rfl) | (refine st_exit ?_ rfl ?_; exact rfl; (conv in exitId _ => whnf)) | (apply st_ret; exact rfl))
    | ((with_reducible refine retW_intro rfl ?_); (conv => arg 2; whnf))
    | ((with_reducible refine ifB_split (fun hb => ?_) (fun hb => ?_)) <;> (try rw [Bool.not_true] at hb) <;> (try rw [Bool.not_false] at hb) <;> (try simp only [hb]))
    | ((with_reducible refine gW_split (fun hb => ?_) (fun hb => ?_)) <;> (try rw [Bool.not_true] at hb) <;> (try rw [Bool.not_false] at hb) <;> (try simp only [hb]))
    | ((with_reducible refine gX_split (fun hb => ?_) (fun hb => ?_)) <;> (try rw [Bool.not_true] at hb) <;> (try rw [Bool.not_false] at hb) <;> (try simp only [hb]))
    | ((with_reducible show drawP _ _ _ _ _ _ _ _ _); first | (apply kP_rd; exact rfl; exact rfl) | (apply kP_rg; exact rfl; exact rfl; exact rfl) | (apply kP_cv; exact rfl; exact rfl; kernel_rfl) | (apply kP_al; exact rfl; exact rfl; exact rfl) | (apply kP_ex; exact rfl; exact rfl; kernel_rfl; exact rfl) | (apply kP_eg; exact rfl; exact rfl; kernel_rfl; exact rfl) | (apply kP_nl))
    | ((with_reducible show drawI _ _ _ _ _ _ _ _ _); first | (apply kI_rd; exact rfl) | (apply kI_rg; exact rfl; exact rfl) | (apply kI_cv; exact rfl; kernel_rfl) | (apply kI_al; exact rfl; exact rfl) | (apply kI_ex; exact rfl; kernel_rfl; exact rfl) | (apply kI_eg; exact rfl; kernel_rfl; exact rfl) | (apply kI_nl))
    | ((with_reducible show eOk _ _ _ _ _ _); first | (exact eok_nil) | (apply ke_rd; exact rfl) | (apply ke_rg; exact rfl; exact rfl) | (apply ke_cv; exact rfl; kernel_rfl) | (apply ke_al; exact rfl; exact rfl))
    | ((with_reducible apply freshIs_new); kernel_rfl)
    | (simp only [B, xB, F, Nat.reduceLT, Nat.reduceLeDiff, Nat.reduceEqDiff, Nat.reduceAdd, Nat.reduceMul, Nat.reduceSub, ↓reduceIte, eq_self, t7, t8, c7, c10, c12, c14]))
  refine ((sinceC hJ _ L2 0 hgD z2).call P).mono P ?_
  rintro q3 hK ⟨oK, gq3⟩
  have xoK := oK.1
  first | replace c7 := kcell c7 oK (by omega) (by simp) | replace c7 := kwr c7 oK (by omega) (by simp)
  first | replace c10 := kcell c10 oK (by omega) (by simp) | replace c10 := kwr c10 oK (by omega) (by simp)
  first | replace c12 := kcell c12 oK (by omega) (by simp) | replace c12 := kwr c12 oK (by omega) (by simp)
  first | replace c14 := kcell c14 oK (by omega) (by simp) | replace c14 := kwr c14 oK (by omega) (by simp)
  replace hgF := hgF.keep oK
  replace hgD := hgD.keep oK
  replace hgB := hgB.keep oK
  replace hg := hg.keep oK
  repeat' (first
    | ((with_reducible show codeW _ _ _ _ (codeI _ _) _ _ _ _); first | (apply st_seq; exact rfl) | (refine st_reg ?_ rfl rfl ?_; exact rfl; (conv => arg 4; whnf); (conv => arg 3; whnf)) | (refine st_dp ord3_0 ?_ rfl rfl ?_; exact rfl; (conv => arg 4; whnf); (conv => arg 3; whnf)) | (refine st_dw ?_ rfl rfl ?_ ?_; exact rfl; kernel_rfl; (conv => arg 5; whnf); (conv => arg 3; whnf)) | (refine st_cond ?_ rfl ?_; exact rfl; (conv => arg 1; arg 2; whnf)) | (refine st_block ?_ rfl ?_; exact rfl; (conv => arg 9; arg 1; whnf)) | (apply st_skip; exact rfl) | (refine st_exit ?_ rfl ?_; exact rfl; (conv in exitId _ => whnf)) | (apply st_ret; exact rfl))
    | ((with_reducible refine retW_intro rfl ?_); (conv => arg 2; whnf))
    | ((with_reducible refine ifB_split (fun hb => ?_) (fun hb => ?_)) <;> (try rw [Bool.not_true] at hb) <;> (try rw [Bool.not_false] at hb) <;> (try simp only [hb]))
    | ((with_reducible refine gW_split (fun hb => ?_) (fun hb => ?_)) <;> (try rw [Bool.not_true] at hb) <;> (try rw [Bool.not_false] at hb) <;> (try simp only [hb]))
    | ((with_reducible refine gX_split (fun hb => ?_) (fun hb => ?_)) <;> (try rw [Bool.not_true] at hb) <;> (try rw [Bool.not_false] at hb) <;> (try simp only [hb]))
    | ((with_reducible show drawP _ _ _ _ _ _ _ _ _); first | (apply kP_rd; exact rfl; exact rfl) | (apply kP_rg; exact rfl; exact rfl; exact rfl) | (apply kP_cv; exact rfl; exact rfl; kernel_rfl) | (apply kP_al; exact rfl; exact rfl; exact rfl) | (apply kP_ex; exact rfl; exact rfl; kernel_rfl; exact rfl) | (apply kP_eg; exact rfl; exact rfl; kernel_rfl; exact rfl) | (apply kP_nl))
    | ((with_reducible show drawI _ _ _ _ _ _ _ _ _); first | (apply kI_rd; exact rfl) | (apply kI_rg; exact rfl; exact rfl) | (apply kI_cv; exact rfl; kernel_rfl) | (apply kI_al; exact rfl; exact rfl) | (apply kI_ex; exact rfl; kernel_rfl; exact rfl) | (apply kI_eg; exact rfl; kernel_rfl; exact rfl) | (apply kI_nl))
    | ((with_reducible show eOk _ _ _ _ _ _); first | (exact eok_nil) | (apply ke_rd; exact rfl) | (apply ke_rg; exact rfl; exact rfl) | (apply ke_cv; exact rfl; kernel_rfl) | (apply ke_al; exact rfl; exact rfl))
    | ((with_reducible apply freshIs_new); kernel_rfl)
    | (simp only [B, xB, F, Nat.reduceLT, Nat.reduceLeDiff, Nat.reduceEqDiff, Nat.reduceAdd, Nat.reduceMul, Nat.reduceSub, ↓reduceIte, eq_self, t7, t8, c7, c10, c12, c14]))
  refine ((sinceC hK _ L3 0 hgF z3).call P).mono P ?_
  rintro q4 hL ⟨oL, gq4⟩
  have xoL := oL.1
  first | replace c7 := kcell c7 oL (by omega) (by simp) | replace c7 := kwr c7 oL (by omega) (by simp)
  first | replace c10 := kcell c10 oL (by omega) (by simp) | replace c10 := kwr c10 oL (by omega) (by simp)
  first | replace c12 := kcell c12 oL (by omega) (by simp) | replace c12 := kwr c12 oL (by omega) (by simp)
  first | replace c14 := kcell c14 oL (by omega) (by simp) | replace c14 := kwr c14 oL (by omega) (by simp)
  replace hgF := hgF.keep oL
  replace hgD := hgD.keep oL
  replace hgB := hgB.keep oL
  replace hg := hg.keep oL
  repeat' (first
    | ((with_reducible show codeW _ _ _ _ (codeI _ _) _ _ _ _); first | (apply st_seq; exact rfl) | (refine st_reg ?_ rfl rfl ?_; exact rfl; (conv => arg 4; whnf); (conv => arg 3; whnf)) | (refine st_dp ord3_0 ?_ rfl rfl ?_; exact rfl; (conv => arg 4; whnf); (conv => arg 3; whnf)) | (refine st_dw ?_ rfl rfl ?_ ?_; exact rfl; kernel_rfl; (conv => arg 5; whnf); (conv => arg 3; whnf)) | (refine st_cond ?_ rfl ?_; exact rfl; (conv => arg 1; arg 2; whnf)) | (refine st_block ?_ rfl ?_; exact rfl; (conv => arg 9; arg 1; whnf)) | (apply st_skip; exact rfl) | (refine st_exit ?_ rfl ?_; exact rfl; (conv in exitId _ => whnf)) | (apply st_ret; exact rfl))
    | ((with_reducible refine retW_intro rfl ?_); (conv => arg 2; whnf))
    | ((with_reducible refine ifB_split (fun hb => ?_) (fun hb => ?_)) <;> (try rw [Bool.not_true] at hb) <;> (try rw [Bool.not_false] at hb) <;> (try simp only [hb]))
    | ((with_reducible refine gW_split (fun hb => ?_) (fun hb => ?_)) <;> (try rw [Bool.not_true] at hb) <;> (try rw [Bool.not_false] at hb) <;> (try simp only [hb]))
    | ((with_reducible refine gX_split (fun hb => ?_) (fun hb => ?_)) <;> (try rw [Bool.not_true] at hb) <;> (try rw [Bool.not_false] at hb) <;> (try simp only [hb]))
    | ((with_reducible show drawP _ _ _ _ _ _ _ _ _); first | (apply kP_rd; exact rfl; exact rfl) | (apply kP_rg; exact rfl; exact rfl; exact rfl) | (apply kP_cv; exact rfl; exact rfl; kernel_rfl) | (apply kP_al; exact rfl; exact rfl; exact rfl) | (apply kP_ex; exact rfl; exact rfl; kernel_rfl; exact rfl) | (apply kP_eg; exact rfl; exact rfl; kernel_rfl; exact rfl) | (apply kP_nl))
    | ((with_reducible show drawI _ _ _ _ _ _ _ _ _); first | (apply kI_rd; exact rfl) | (apply kI_rg; exact rfl; exact rfl) | (apply kI_cv; exact rfl; kernel_rfl) | (apply kI_al; exact rfl; exact rfl) | (apply kI_ex; exact rfl; kernel_rfl; exact rfl) | (apply kI_eg; exact rfl; kernel_rfl; exact rfl) | (apply kI_nl))
    | ((with_reducible show eOk _ _ _ _ _ _); first | (exact eok_nil) | (apply ke_rd; exact rfl) | (apply ke_rg; exact rfl; exact rfl) | (apply ke_cv; exact rfl; kernel_rfl) | (apply ke_al; exact rfl; exact rfl))
    | ((with_reducible apply freshIs_new); kernel_rfl)
    | (simp only [B, xB, F, Nat.reduceLT, Nat.reduceLeDiff, Nat.reduceEqDiff, Nat.reduceAdd, Nat.reduceMul, Nat.reduceSub, ↓reduceIte, eq_self, t7, t8, c7, c10, c12, c14]))
  refine ((revsC hL q3 q4 _ _ (gq3.slice.only oL (fun _ _ => by simp)) gq4.slice (slen _ _ z2)).call P).mono P ?_
  rintro v hM ⟨rfl, oM⟩
  have s2 : sinceL 0 (all L2) = sinceL 0 (all L3) := by rw [a23]
  rw [decide_eq_true s2]
  have xoM := oM.1
  first | replace c7 := kcell c7 oM (by omega) (by simp) | replace c7 := kwr c7 oM (by omega) (by simp)
  first | replace c10 := kcell c10 oM (by omega) (by simp) | replace c10 := kwr c10 oM (by omega) (by simp)
  first | replace c12 := kcell c12 oM (by omega) (by simp) | replace c12 := kwr c12 oM (by omega) (by simp)
  first | replace c14 := kcell c14 oM (by omega) (by simp) | replace c14 := kwr c14 oM (by omega) (by simp)
  replace hgF := hgF.keep oM
  replace hgD := hgD.keep oM
  replace hgB := hgB.keep oM
  replace hg := hg.keep oM
  have xtr : h.nx ≤ hM.nx ∧ hA.nx < hM.nx ∧ hC.nx < hM.nx ∧ hE.nx < hM.nx := by
    have := oA.1; have := oB.1; have := oC.1; have := oD.1; have := oE.1; have := oF.1; have := oG.1; have := oH.1; have := oI.1; have := oJ.1; have := oK.1; have := oL.1; have := oM.1
    omega
  repeat' (first
    | ((with_reducible show codeW _ _ _ _ (codeI _ _) _ _ _ _); first | (apply st_seq; exact rfl) | (refine st_reg ?_ rfl rfl ?_; exact rfl; (conv => arg 4; whnf); (conv => arg 3; whnf)) | (refine st_dp ord3_0 ?_ rfl rfl ?_; exact rfl; (conv => arg 4; whnf); (conv => arg 3; whnf)) | (refine st_dw ?_ rfl rfl ?_ ?_; exact rfl; kernel_rfl; (conv => arg 5; whnf); (conv => arg 3; whnf)) | (refine st_cond ?_ rfl ?_; exact rfl; (conv => arg 1; arg 2; whnf)) | (refine st_block ?_ rfl ?_; exact rfl; (conv => arg 9; arg 1; whnf)) | (apply st_skip; exact rfl) | (refine st_exit ?_ rfl ?_; exact rfl; (conv in exitId _ => whnf)) | (apply st_ret; exact rfl))
    | ((with_reducible refine retW_intro rfl ?_); (conv => arg 2; whnf))
    | ((with_reducible refine ifB_split (fun hb => ?_) (fun hb => ?_)) <;> (try rw [Bool.not_true] at hb) <;> (try rw [Bool.not_false] at hb) <;> (try simp only [hb]))
    | ((with_reducible refine gW_split (fun hb => ?_) (fun hb => ?_)) <;> (try rw [Bool.not_true] at hb) <;> (try rw [Bool.not_false] at hb) <;> (try simp only [hb]))
    | ((with_reducible refine gX_split (fun hb => ?_) (fun hb => ?_)) <;> (try rw [Bool.not_true] at hb) <;> (try rw [Bool.not_false] at hb) <;> (try simp only [hb]))
    | ((with_reducible show drawP _ _ _ _ _ _ _ _ _); first | (apply kP_rd; exact rfl; exact rfl) | (apply kP_rg; exact rfl; exact rfl; exact rfl) | (apply kP_cv; exact rfl; exact rfl; kernel_rfl) | (apply kP_al; exact rfl; exact rfl; exact rfl) | (apply kP_ex; exact rfl; exact rfl; kernel_rfl; exact rfl) | (apply kP_eg; exact rfl; exact rfl; kernel_rfl; exact rfl) | (apply kP_nl))
    | ((with_reducible show drawI _ _ _ _ _ _ _ _ _); first | (apply kI_rd; exact rfl) | (apply kI_rg; exact rfl; exact rfl) | (apply kI_cv; exact rfl; kernel_rfl) | (apply kI_al; exact rfl; exact rfl) | (apply kI_ex; exact rfl; kernel_rfl; exact rfl) | (apply kI_eg; exact rfl; kernel_rfl; exact rfl) | (apply kI_nl))
    | ((with_reducible show eOk _ _ _ _ _ _); first | (exact eok_nil) | (apply ke_rd; exact rfl) | (apply ke_rg; exact rfl; exact rfl) | (apply ke_cv; exact rfl; kernel_rfl) | (apply ke_al; exact rfl; exact rfl))
    | ((with_reducible apply freshIs_new); kernel_rfl)
    | (simp only [B, xB, F, Nat.reduceLT, Nat.reduceLeDiff, Nat.reduceEqDiff, Nat.reduceAdd, Nat.reduceMul, Nat.reduceSub, ↓reduceIte, eq_self, t7, t8, c7, c10, c12, c14]))
  refine st_loop (fun n ds tm h' => ∃ m, CpI hM b7 hA.nx hC.nx hE.nx c d n ds tm h' m) (140 - c) rfl ⟨c, rfl, rfl, ⟨Nat.le_refl _, by omega⟩, by simp only [B, xB, F, Nat.reduceLT, Nat.reduceLeDiff, Nat.reduceEqDiff, Nat.reduceAdd, Nat.reduceMul, Nat.reduceSub, ↓reduceIte, eq_self, t7], by simp only [B, xB, F, Nat.reduceLT, Nat.reduceLeDiff, Nat.reduceEqDiff, Nat.reduceAdd, Nat.reduceMul, Nat.reduceSub, ↓reduceIte, eq_self], by simp only [B, xB, F, Nat.reduceLT, Nat.reduceLeDiff, Nat.reduceEqDiff, Nat.reduceAdd, Nat.reduceMul, Nat.reduceSub, ↓reduceIte, eq_self], by simp only [B, xB, F, Nat.reduceLT, Nat.reduceLeDiff, Nat.reduceEqDiff, Nat.reduceAdd, Nat.reduceMul, Nat.reduceSub, ↓reduceIte, eq_self], by simp only [B, xB, F, Nat.reduceLT, Nat.reduceLeDiff, Nat.reduceEqDiff, Nat.reduceAdd, Nat.reduceMul, Nat.reduceSub, ↓reduceIte, eq_self, t9], by simp only [B, xB, F, Nat.reduceLT, Nat.reduceLeDiff, Nat.reduceEqDiff, Nat.reduceAdd, Nat.reduceMul, Nat.reduceSub, ↓reduceIte, eq_self], Only.refl _ _⟩ (fun n ds tm h' hI => ?_)
  obtain ⟨m, rfl, rfl, mm, t7, t10, t12, t14, t9, t16, oo⟩ := hI
  have hgF := hgF.keep oo
  have hgD := hgD.keep oo
  have hgB := hgB.keep oo
  have hg := hg.keep oo
  have x0 := oo.1
  first | replace c7 := kcell c7 oo (by omega) (by simp) | replace c7 := kwr c7 oo (by omega) (by simp)
  first | replace c10 := kcell c10 oo (by omega) (by simp) | replace c10 := kwr c10 oo (by omega) (by simp)
  first | replace c12 := kcell c12 oo (by omega) (by simp) | replace c12 := kwr c12 oo (by omega) (by simp)
  first | replace c14 := kcell c14 oo (by omega) (by simp) | replace c14 := kwr c14 oo (by omega) (by simp)
  have hA1 := atIs_of (L := L1) (M := L) (m := m) (by rw [a1]; exact isK_comp hr mm.1) hgood.nth
  by_cases hm : m < 140
  · have d2 : decide (m < 140) = true := decide_eq_true hm
    have w2 : wrapF .u64 (Int.ofNat m + Int.ofNat 1) = Int.ofNat (m + 1) := u64_add (by omega)
    repeat' (first
      | ((with_reducible show codeW _ _ _ _ (codeI _ _) _ _ _ _); first | (apply st_seq; exact rfl) | (refine st_reg ?_ rfl rfl ?_; exact rfl; (conv => arg 4; whnf); (conv => arg 3; whnf)) | (refine st_dp ord3_0 ?_ rfl rfl ?_; exact rfl; (conv => arg 4; whnf); (conv => arg 3; whnf)) | (refine st_dw ?_ rfl rfl ?_ ?_; exact rfl; kernel_rfl; (conv => arg 5; whnf); (conv => arg 3; whnf)) | (refine st_cond ?_ rfl ?_; exact rfl; (conv => arg 1; arg 2; whnf)) | (refine st_block ?_ rfl ?_; exact rfl; (conv => arg 9; arg 1; whnf)) | (apply st_skip; exact rfl) | (refine st_exit ?_ rfl ?_; exact rfl; (conv in exitId _ => whnf)) | (apply st_ret; exact rfl))
      | ((with_reducible refine retW_intro rfl ?_); (conv => arg 2; whnf))
      | ((with_reducible refine ifB_split (fun hb => ?_) (fun hb => ?_)) <;> (try rw [Bool.not_true] at hb) <;> (try rw [Bool.not_false] at hb) <;> (try simp only [hb]))
      | ((with_reducible refine gW_split (fun hb => ?_) (fun hb => ?_)) <;> (try rw [Bool.not_true] at hb) <;> (try rw [Bool.not_false] at hb) <;> (try simp only [hb]))
      | ((with_reducible refine gX_split (fun hb => ?_) (fun hb => ?_)) <;> (try rw [Bool.not_true] at hb) <;> (try rw [Bool.not_false] at hb) <;> (try simp only [hb]))
      | ((with_reducible show drawP _ _ _ _ _ _ _ _ _); first | (apply kP_rd; exact rfl; exact rfl) | (apply kP_rg; exact rfl; exact rfl; exact rfl) | (apply kP_cv; exact rfl; exact rfl; kernel_rfl) | (apply kP_al; exact rfl; exact rfl; exact rfl) | (apply kP_ex; exact rfl; exact rfl; kernel_rfl; exact rfl) | (apply kP_eg; exact rfl; exact rfl; kernel_rfl; exact rfl) | (apply kP_nl))
      | ((with_reducible show drawI _ _ _ _ _ _ _ _ _); first | (apply kI_rd; exact rfl) | (apply kI_rg; exact rfl; exact rfl) | (apply kI_cv; exact rfl; kernel_rfl) | (apply kI_al; exact rfl; exact rfl) | (apply kI_ex; exact rfl; kernel_rfl; exact rfl) | (apply kI_eg; exact rfl; kernel_rfl; exact rfl) | (apply kI_nl))
      | ((with_reducible show eOk _ _ _ _ _ _); first | (exact eok_nil) | (apply ke_rd; exact rfl) | (apply ke_rg; exact rfl; exact rfl) | (apply ke_cv; exact rfl; kernel_rfl) | (apply ke_al; exact rfl; exact rfl))
      | ((with_reducible apply freshIs_new); kernel_rfl)
      | (simp only [B, xB, F, Nat.reduceLT, Nat.reduceLeDiff, Nat.reduceEqDiff, Nat.reduceAdd, Nat.reduceMul, Nat.reduceSub, ↓reduceIte, eq_self, t7, t10, t12, t14, t9, t16, d2, c7]))
    refine ((atC h' _ L m hg hz1).call P).mono P ?_
    rintro v hN ⟨rfl, oN⟩
    have hgD0 := hgD
    obtain ⟨k, hk⟩ : ∃ k, k = atK L m := ⟨_, rfl⟩
    obtain ⟨is, hi⟩ : ∃ is, is = atB L m := ⟨_, rfl⟩
    rw [← hk, ← hi] at hA1 ⊢
    have ek : rvA k.rev = .agg [.int .u64 (.ofNat k.rev.1), .int .u64 (.ofNat k.rev.2)] := rfl
    rw [ek]
    unfold n64
    have xoN := oN.1
    first | replace c7 := kcell c7 oN (by omega) (by simp) | replace c7 := kwr c7 oN (by omega) (by simp)
    first | replace c10 := kcell c10 oN (by omega) (by simp) | replace c10 := kwr c10 oN (by omega) (by simp)
    first | replace c12 := kcell c12 oN (by omega) (by simp) | replace c12 := kwr c12 oN (by omega) (by simp)
    first | replace c14 := kcell c14 oN (by omega) (by simp) | replace c14 := kwr c14 oN (by omega) (by simp)
    replace hgF := hgF.keep oN
    replace hgD := hgD.keep oN
    replace hgB := hgB.keep oN
    replace hg := hg.keep oN
    obtain ⟨hO, hOe⟩ : ∃ hO, hO = (hN.newCells 35 [.int .u64 (.ofNat 0), .int .u64 (.ofNat 0)]).sts hN.nx 0 [.int .u64 (.ofNat k.rev.1), .int .u64 (.ofNat k.rev.2)] := ⟨_, rfl⟩
    have oO : Only hN hO [] := by rw [hOe]; exact ((Only.refl _ _).new _ _).sts (.inr (Nat.le_refl _))
    have r0 : cellAt hO hN.nx 0 = some (.int .u64 (.ofNat k.rev.1)) := by rw [hOe]; simp only [B, xB, F, Nat.reduceLT, Nat.reduceLeDiff, Nat.reduceEqDiff, Nat.reduceAdd, Nat.reduceMul, Nat.reduceSub, ↓reduceIte, eq_self]
    have r1 : cellAt hO hN.nx 1 = some (.int .u64 (.ofNat k.rev.2)) := by rw [hOe]; simp only [B, xB, F, Nat.reduceLT, Nat.reduceLeDiff, Nat.reduceEqDiff, Nat.reduceAdd, Nat.reduceMul, Nat.reduceSub, ↓reduceIte, eq_self]
    have wO : wrAt hO hN.nx = true := by rw [hOe]; simp only [B, xB, F, Nat.reduceLT, Nat.reduceLeDiff, Nat.reduceEqDiff, Nat.reduceAdd, Nat.reduceMul, Nat.reduceSub, ↓reduceIte, eq_self]
    have xO' : hO.nx = hN.nx + 1 := by rw [hOe, nx_sts, nx_new]
    have xoO := oO.1
    first | replace c7 := kcell c7 oO (by omega) (by simp) | replace c7 := kwr c7 oO (by omega) (by simp)
    first | replace c10 := kcell c10 oO (by omega) (by simp) | replace c10 := kwr c10 oO (by omega) (by simp)
    first | replace c12 := kcell c12 oO (by omega) (by simp) | replace c12 := kwr c12 oO (by omega) (by simp)
    first | replace c14 := kcell c14 oO (by omega) (by simp) | replace c14 := kwr c14 oO (by omega) (by simp)
    replace hgF := hgF.keep oO
    replace hgD := hgD.keep oO
    replace hgB := hgB.keep oO
    replace hg := hg.keep oO
    repeat' (first
      | ((with_reducible show codeW _ _ _ _ (codeI _ _) _ _ _ _); first | (apply st_seq; exact rfl) | (refine st_reg ?_ rfl rfl ?_; exact rfl; (conv => arg 4; whnf); (conv => arg 3; whnf)) | (refine st_dp ord3_0 ?_ rfl rfl ?_; exact rfl; (conv => arg 4; whnf); (conv => arg 3; whnf)) | (refine st_dw ?_ rfl rfl ?_ ?_; exact rfl; kernel_rfl; (conv => arg 5; whnf); (conv => arg 3; whnf)) | (refine st_cond ?_ rfl ?_; exact rfl; (conv => arg 1; arg 2; whnf)) | (refine st_block ?_ rfl ?_; exact rfl; (conv => arg 9; arg 1; whnf)) | (apply st_skip; exact rfl) | (refine st_exit ?_ rfl ?_; exact rfl; (conv in exitId _ => whnf)) | (apply st_ret; exact rfl))
      | ((with_reducible refine retW_intro rfl ?_); (conv => arg 2; whnf))
      | ((with_reducible refine ifB_split (fun hb => ?_) (fun hb => ?_)) <;> (try rw [Bool.not_true] at hb) <;> (try rw [Bool.not_false] at hb) <;> (try simp only [hb]))
      | ((with_reducible refine gW_split (fun hb => ?_) (fun hb => ?_)) <;> (try rw [Bool.not_true] at hb) <;> (try rw [Bool.not_false] at hb) <;> (try simp only [hb]))
      | ((with_reducible refine gX_split (fun hb => ?_) (fun hb => ?_)) <;> (try rw [Bool.not_true] at hb) <;> (try rw [Bool.not_false] at hb) <;> (try simp only [hb]))
      | ((with_reducible show drawP _ _ _ _ _ _ _ _ _); first | (apply kP_rd; exact rfl; exact rfl) | (apply kP_rg; exact rfl; exact rfl; exact rfl) | (apply kP_cv; exact rfl; exact rfl; kernel_rfl) | (apply kP_al; exact rfl; exact rfl; exact rfl) | (apply kP_ex; exact rfl; exact rfl; kernel_rfl; exact rfl) | (apply kP_eg; exact rfl; exact rfl; kernel_rfl; exact rfl) | (apply kP_nl))
      | ((with_reducible show drawI _ _ _ _ _ _ _ _ _); first | (apply kI_rd; exact rfl) | (apply kI_rg; exact rfl; exact rfl) | (apply kI_cv; exact rfl; kernel_rfl) | (apply kI_al; exact rfl; exact rfl) | (apply kI_ex; exact rfl; kernel_rfl; exact rfl) | (apply kI_eg; exact rfl; kernel_rfl; exact rfl) | (apply kI_nl))
      | ((with_reducible show eOk _ _ _ _ _ _); first | (exact eok_nil) | (apply ke_rd; exact rfl) | (apply ke_rg; exact rfl; exact rfl) | (apply ke_cv; exact rfl; kernel_rfl) | (apply ke_al; exact rfl; exact rfl))
      | ((with_reducible apply freshIs_new); kernel_rfl)
      | (simp only [B, xB, F, Nat.reduceLT, Nat.reduceLeDiff, Nat.reduceEqDiff, Nat.reduceAdd, Nat.reduceMul, Nat.reduceSub, ↓reduceIte, eq_self, t7, t10, t12, t14, t9, t16, ← hOe, c10, r0, r1]))
    refine ((atIsC hO _ L1 m k.rev k.made k.nth hgB z1).call P).mono P ?_
    rintro v hQ ⟨rfl, oQ⟩
    rw [hA1.1]
    have xoQ := oQ.1
    first | replace c7 := kcell c7 oQ (by omega) (by simp) | replace c7 := kwr c7 oQ (by omega) (by simp)
    first | replace c10 := kcell c10 oQ (by omega) (by simp) | replace c10 := kwr c10 oQ (by omega) (by simp)
    first | replace c12 := kcell c12 oQ (by omega) (by simp) | replace c12 := kwr c12 oQ (by omega) (by simp)
    first | replace c14 := kcell c14 oQ (by omega) (by simp) | replace c14 := kwr c14 oQ (by omega) (by simp)
    first | replace r0 := kcell r0 oQ (by omega) (by simp) | replace r0 := kwr r0 oQ (by omega) (by simp)
    first | replace r1 := kcell r1 oQ (by omega) (by simp) | replace r1 := kwr r1 oQ (by omega) (by simp)
    first | replace wO := kcell wO oQ (by omega) (by simp) | replace wO := kwr wO oQ (by omega) (by simp)
    replace hgF := hgF.keep oQ
    replace hgD := hgD.keep oQ
    replace hgB := hgB.keep oQ
    replace hg := hg.keep oQ
    have hne := hA1.2
    by_cases hmd : d ≤ m
    · have d3 : decide (d ≤ m) = true := decide_eq_true hmd
      repeat' (first
        | ((with_reducible show codeW _ _ _ _ (codeI _ _) _ _ _ _); first | (apply st_seq; exact rfl) | (refine st_reg ?_ rfl rfl ?_; exact rfl; (conv => arg 4; whnf); (conv => arg 3; whnf)) | (refine st_dp ord3_0 ?_ rfl rfl ?_; exact rfl; (conv => arg 4; whnf); (conv => arg 3; whnf)) | (refine st_dw ?_ rfl rfl ?_ ?_; exact rfl; kernel_rfl; (conv => arg 5; whnf); (conv => arg 3; whnf)) | (refine st_cond ?_ rfl ?_; exact rfl; (conv => arg 1; arg 2; whnf)) | (refine st_block ?_ rfl ?_; exact rfl; (conv => arg 9; arg 1; whnf)) | (apply st_skip; exact rfl) | (refine st_exit ?_ rfl ?_; exact rfl; (conv in exitId _ => whnf)) | (apply st_ret; exact rfl))
        | ((with_reducible refine retW_intro rfl ?_); (conv => arg 2; whnf))
        | ((with_reducible refine ifB_split (fun hb => ?_) (fun hb => ?_)) <;> (try rw [Bool.not_true] at hb) <;> (try rw [Bool.not_false] at hb) <;> (try simp only [hb]))
        | ((with_reducible refine gW_split (fun hb => ?_) (fun hb => ?_)) <;> (try rw [Bool.not_true] at hb) <;> (try rw [Bool.not_false] at hb) <;> (try simp only [hb]))
        | ((with_reducible refine gX_split (fun hb => ?_) (fun hb => ?_)) <;> (try rw [Bool.not_true] at hb) <;> (try rw [Bool.not_false] at hb) <;> (try simp only [hb]))
        | ((with_reducible show drawP _ _ _ _ _ _ _ _ _); first | (apply kP_rd; exact rfl; exact rfl) | (apply kP_rg; exact rfl; exact rfl; exact rfl) | (apply kP_cv; exact rfl; exact rfl; kernel_rfl) | (apply kP_al; exact rfl; exact rfl; exact rfl) | (apply kP_ex; exact rfl; exact rfl; kernel_rfl; exact rfl) | (apply kP_eg; exact rfl; exact rfl; kernel_rfl; exact rfl) | (apply kP_nl))
        | ((with_reducible show drawI _ _ _ _ _ _ _ _ _); first | (apply kI_rd; exact rfl) | (apply kI_rg; exact rfl; exact rfl) | (apply kI_cv; exact rfl; kernel_rfl) | (apply kI_al; exact rfl; exact rfl) | (apply kI_ex; exact rfl; kernel_rfl; exact rfl) | (apply kI_eg; exact rfl; kernel_rfl; exact rfl) | (apply kI_nl))
        | ((with_reducible show eOk _ _ _ _ _ _); first | (exact eok_nil) | (apply ke_rd; exact rfl) | (apply ke_rg; exact rfl; exact rfl) | (apply ke_cv; exact rfl; kernel_rfl) | (apply ke_al; exact rfl; exact rfl))
        | ((with_reducible apply freshIs_new); kernel_rfl)
        | (simp only [B, xB, F, Nat.reduceLT, Nat.reduceLeDiff, Nat.reduceEqDiff, Nat.reduceAdd, Nat.reduceMul, Nat.reduceSub, ↓reduceIte, eq_self, t7, t10, t12, t14, t9, t16, c14, hne, Bool.not_true, d3]))
      have hA2 := atIs_of (L := L2) (M := L3) (m := m) (by rw [a23]) g3.nth
      refine ((atC hQ _ L3 m hgF z3).call P).mono P ?_
      rintro v hR ⟨rfl, oR⟩
      obtain ⟨k', hk'⟩ : ∃ k, k = atK L3 m := ⟨_, rfl⟩
      rw [← hk'] at hA2 ⊢
      have ek' : rvA k'.rev = .agg [.int .u64 (.ofNat k'.rev.1), .int .u64 (.ofNat k'.rev.2)] := rfl
      rw [ek']
      unfold n64
      have xoR := oR.1
      first | replace c7 := kcell c7 oR (by omega) (by simp) | replace c7 := kwr c7 oR (by omega) (by simp)
      first | replace c10 := kcell c10 oR (by omega) (by simp) | replace c10 := kwr c10 oR (by omega) (by simp)
      first | replace c12 := kcell c12 oR (by omega) (by simp) | replace c12 := kwr c12 oR (by omega) (by simp)
      first | replace c14 := kcell c14 oR (by omega) (by simp) | replace c14 := kwr c14 oR (by omega) (by simp)
      first | replace r0 := kcell r0 oR (by omega) (by simp) | replace r0 := kwr r0 oR (by omega) (by simp)
      first | replace r1 := kcell r1 oR (by omega) (by simp) | replace r1 := kwr r1 oR (by omega) (by simp)
      first | replace wO := kcell wO oR (by omega) (by simp) | replace wO := kwr wO oR (by omega) (by simp)
      replace hgF := hgF.keep oR
      replace hgD := hgD.keep oR
      replace hgB := hgB.keep oR
      replace hg := hg.keep oR
      obtain ⟨hS, hSe⟩ : ∃ hS, hS = hR.sts hN.nx 0 [.int .u64 (.ofNat k'.rev.1), .int .u64 (.ofNat k'.rev.2)] := ⟨_, rfl⟩
      have oS : Only h' hS [] := by
        rw [hSe]; exact ((((oN.t oO).t oQ).t oR)).sts (.inr (by omega))
      have oS1 : Only hR hS [hN.nx] := by rw [hSe]; exact (Only.refl _ _).sts (.inl (by simp))
      have r0' : cellAt hS hN.nx 0 = some (.int .u64 (.ofNat k'.rev.1)) := by rw [hSe]; simp only [B, xB, F, Nat.reduceLT, Nat.reduceLeDiff, Nat.reduceEqDiff, Nat.reduceAdd, Nat.reduceMul, Nat.reduceSub, ↓reduceIte, eq_self, cellAt_sts wO]
      have r1' : cellAt hS hN.nx 1 = some (.int .u64 (.ofNat k'.rev.2)) := by rw [hSe]; simp only [B, xB, F, Nat.reduceLT, Nat.reduceLeDiff, Nat.reduceEqDiff, Nat.reduceAdd, Nat.reduceMul, Nat.reduceSub, ↓reduceIte, eq_self, cellAt_sts wO]
      have cx12 := (oS1.cell (b := hC.nx) (by omega) (by simp; omega) 0).trans c12
      have hgDS := hgD0.keep oS
      repeat' (first
        | ((with_reducible show codeW _ _ _ _ (codeI _ _) _ _ _ _); first | (apply st_seq; exact rfl) | (refine st_reg ?_ rfl rfl ?_; exact rfl; (conv => arg 4; whnf); (conv => arg 3; whnf)) | (refine st_dp ord3_0 ?_ rfl rfl ?_; exact rfl; (conv => arg 4; whnf); (conv => arg 3; whnf)) | (refine st_dw ?_ rfl rfl ?_ ?_; exact rfl; kernel_rfl; (conv => arg 5; whnf); (conv => arg 3; whnf)) | (refine st_cond ?_ rfl ?_; exact rfl; (conv => arg 1; arg 2; whnf)) | (refine st_block ?_ rfl ?_; exact rfl; (conv => arg 9; arg 1; whnf)) | (apply st_skip; exact rfl) | (refine st_exit ?_ rfl ?_; exact rfl; (conv in exitId _ => whnf)) | (apply st_ret; exact rfl))
        | ((with_reducible refine retW_intro rfl ?_); (conv => arg 2; whnf))
        | ((with_reducible refine ifB_split (fun hb => ?_) (fun hb => ?_)) <;> (try rw [Bool.not_true] at hb) <;> (try rw [Bool.not_false] at hb) <;> (try simp only [hb]))
        | ((with_reducible refine gW_split (fun hb => ?_) (fun hb => ?_)) <;> (try rw [Bool.not_true] at hb) <;> (try rw [Bool.not_false] at hb) <;> (try simp only [hb]))
        | ((with_reducible refine gX_split (fun hb => ?_) (fun hb => ?_)) <;> (try rw [Bool.not_true] at hb) <;> (try rw [Bool.not_false] at hb) <;> (try simp only [hb]))
        | ((with_reducible show drawP _ _ _ _ _ _ _ _ _); first | (apply kP_rd; exact rfl; exact rfl) | (apply kP_rg; exact rfl; exact rfl; exact rfl) | (apply kP_cv; exact rfl; exact rfl; kernel_rfl) | (apply kP_al; exact rfl; exact rfl; exact rfl) | (apply kP_ex; exact rfl; exact rfl; kernel_rfl; exact rfl) | (apply kP_eg; exact rfl; exact rfl; kernel_rfl; exact rfl) | (apply kP_nl))
        | ((with_reducible show drawI _ _ _ _ _ _ _ _ _); first | (apply kI_rd; exact rfl) | (apply kI_rg; exact rfl; exact rfl) | (apply kI_cv; exact rfl; kernel_rfl) | (apply kI_al; exact rfl; exact rfl) | (apply kI_ex; exact rfl; kernel_rfl; exact rfl) | (apply kI_eg; exact rfl; kernel_rfl; exact rfl) | (apply kI_nl))
        | ((with_reducible show eOk _ _ _ _ _ _); first | (exact eok_nil) | (apply ke_rd; exact rfl) | (apply ke_rg; exact rfl; exact rfl) | (apply ke_cv; exact rfl; kernel_rfl) | (apply ke_al; exact rfl; exact rfl))
        | ((with_reducible apply freshIs_new); kernel_rfl)
        | (simp only [B, xB, F, Nat.reduceLT, Nat.reduceLeDiff, Nat.reduceEqDiff, Nat.reduceAdd, Nat.reduceMul, Nat.reduceSub, ↓reduceIte, eq_self, t7, t10, t12, t14, t9, t16, put_sts, wO, r0, r1, ← hSe, cx12, r0', r1']))
      refine ((atIsC hS _ L2 m k'.rev k'.made k'.nth hgDS z2).call P).mono P ?_
      rintro v hT ⟨rfl, oT⟩
      rw [hA2.1]
      repeat' (first
        | ((with_reducible show codeW _ _ _ _ (codeI _ _) _ _ _ _); first | (apply st_seq; exact rfl) | (refine st_reg ?_ rfl rfl ?_; exact rfl; (conv => arg 4; whnf); (conv => arg 3; whnf)) | (refine st_dp ord3_0 ?_ rfl rfl ?_; exact rfl; (conv => arg 4; whnf); (conv => arg 3; whnf)) | (refine st_dw ?_ rfl rfl ?_ ?_; exact rfl; kernel_rfl; (conv => arg 5; whnf); (conv => arg 3; whnf)) | (refine st_cond ?_ rfl ?_; exact rfl; (conv => arg 1; arg 2; whnf)) | (refine st_block ?_ rfl ?_; exact rfl; (conv => arg 9; arg 1; whnf)) | (apply st_skip; exact rfl) | (refine st_exit ?_ rfl ?_; exact rfl; (conv in exitId _ => whnf)) | (apply st_ret; exact rfl))
        | ((with_reducible refine retW_intro rfl ?_); (conv => arg 2; whnf))
        | ((with_reducible refine ifB_split (fun hb => ?_) (fun hb => ?_)) <;> (try rw [Bool.not_true] at hb) <;> (try rw [Bool.not_false] at hb) <;> (try simp only [hb]))
        | ((with_reducible refine gW_split (fun hb => ?_) (fun hb => ?_)) <;> (try rw [Bool.not_true] at hb) <;> (try rw [Bool.not_false] at hb) <;> (try simp only [hb]))
        | ((with_reducible refine gX_split (fun hb => ?_) (fun hb => ?_)) <;> (try rw [Bool.not_true] at hb) <;> (try rw [Bool.not_false] at hb) <;> (try simp only [hb]))
        | ((with_reducible show drawP _ _ _ _ _ _ _ _ _); first | (apply kP_rd; exact rfl; exact rfl) | (apply kP_rg; exact rfl; exact rfl; exact rfl) | (apply kP_cv; exact rfl; exact rfl; kernel_rfl) | (apply kP_al; exact rfl; exact rfl; exact rfl) | (apply kP_ex; exact rfl; exact rfl; kernel_rfl; exact rfl) | (apply kP_eg; exact rfl; exact rfl; kernel_rfl; exact rfl) | (apply kP_nl))
        | ((with_reducible show drawI _ _ _ _ _ _ _ _ _); first | (apply kI_rd; exact rfl) | (apply kI_rg; exact rfl; exact rfl) | (apply kI_cv; exact rfl; kernel_rfl) | (apply kI_al; exact rfl; exact rfl) | (apply kI_ex; exact rfl; kernel_rfl; exact rfl) | (apply kI_eg; exact rfl; kernel_rfl; exact rfl) | (apply kI_nl))
        | ((with_reducible show eOk _ _ _ _ _ _); first | (exact eok_nil) | (apply ke_rd; exact rfl) | (apply ke_rg; exact rfl; exact rfl) | (apply ke_cv; exact rfl; kernel_rfl) | (apply ke_al; exact rfl; exact rfl))
        | ((with_reducible apply freshIs_new); kernel_rfl)
        | (simp only [B, xB, F, Nat.reduceLT, Nat.reduceLeDiff, Nat.reduceEqDiff, Nat.reduceAdd, Nat.reduceMul, Nat.reduceSub, ↓reduceIte, eq_self, t7, t10, t12, t14, t9, t16, w2]))
      exact ⟨140 - (m + 1), by omega, m + 1, rfl, rfl, by omega, by simp only [B, xB, F, Nat.reduceLT, Nat.reduceLeDiff, Nat.reduceEqDiff, Nat.reduceAdd, Nat.reduceMul, Nat.reduceSub, ↓reduceIte, eq_self, t7], by simp only [B, xB, F, Nat.reduceLT, Nat.reduceLeDiff, Nat.reduceEqDiff, Nat.reduceAdd, Nat.reduceMul, Nat.reduceSub, ↓reduceIte, eq_self, t10], by simp only [B, xB, F, Nat.reduceLT, Nat.reduceLeDiff, Nat.reduceEqDiff, Nat.reduceAdd, Nat.reduceMul, Nat.reduceSub, ↓reduceIte, eq_self, t12], by simp only [B, xB, F, Nat.reduceLT, Nat.reduceLeDiff, Nat.reduceEqDiff, Nat.reduceAdd, Nat.reduceMul, Nat.reduceSub, ↓reduceIte, eq_self, t14], by simp only [B, xB, F, Nat.reduceLT, Nat.reduceLeDiff, Nat.reduceEqDiff, Nat.reduceAdd, Nat.reduceMul, Nat.reduceSub, ↓reduceIte, eq_self, t9], by simp only [B, xB, F, Nat.reduceLT, Nat.reduceLeDiff, Nat.reduceEqDiff, Nat.reduceAdd, Nat.reduceMul, Nat.reduceSub, ↓reduceIte, eq_self], oo.t (oS.t oT)⟩
    · have d3 : decide (d ≤ m) = false := decide_eq_false hmd
      repeat' (first
        | ((with_reducible show codeW _ _ _ _ (codeI _ _) _ _ _ _); first | (apply st_seq; exact rfl) | (refine st_reg ?_ rfl rfl ?_; exact rfl; (conv => arg 4; whnf); (conv => arg 3; whnf)) | (refine st_dp ord3_0 ?_ rfl rfl ?_; exact rfl; (conv => arg 4; whnf); (conv => arg 3; whnf)) | (refine st_dw ?_ rfl rfl ?_ ?_; exact rfl; kernel_rfl; (conv => arg 5; whnf); (conv => arg 3; whnf)) | (refine st_cond ?_ rfl ?_; exact rfl; (conv => arg 1; arg 2; whnf)) | (refine st_block ?_ rfl ?_; exact rfl; (conv => arg 9; arg 1; whnf)) | (apply st_skip; exact rfl) | (refine st_exit ?_ rfl ?_; exact rfl; (conv in exitId _ => whnf)) | (apply st_ret; exact rfl))
        | ((with_reducible refine retW_intro rfl ?_); (conv => arg 2; whnf))
        | ((with_reducible refine ifB_split (fun hb => ?_) (fun hb => ?_)) <;> (try rw [Bool.not_true] at hb) <;> (try rw [Bool.not_false] at hb) <;> (try simp only [hb]))
        | ((with_reducible refine gW_split (fun hb => ?_) (fun hb => ?_)) <;> (try rw [Bool.not_true] at hb) <;> (try rw [Bool.not_false] at hb) <;> (try simp only [hb]))
        | ((with_reducible refine gX_split (fun hb => ?_) (fun hb => ?_)) <;> (try rw [Bool.not_true] at hb) <;> (try rw [Bool.not_false] at hb) <;> (try simp only [hb]))
        | ((with_reducible show drawP _ _ _ _ _ _ _ _ _); first | (apply kP_rd; exact rfl; exact rfl) | (apply kP_rg; exact rfl; exact rfl; exact rfl) | (apply kP_cv; exact rfl; exact rfl; kernel_rfl) | (apply kP_al; exact rfl; exact rfl; exact rfl) | (apply kP_ex; exact rfl; exact rfl; kernel_rfl; exact rfl) | (apply kP_eg; exact rfl; exact rfl; kernel_rfl; exact rfl) | (apply kP_nl))
        | ((with_reducible show drawI _ _ _ _ _ _ _ _ _); first | (apply kI_rd; exact rfl) | (apply kI_rg; exact rfl; exact rfl) | (apply kI_cv; exact rfl; kernel_rfl) | (apply kI_al; exact rfl; exact rfl) | (apply kI_ex; exact rfl; kernel_rfl; exact rfl) | (apply kI_eg; exact rfl; kernel_rfl; exact rfl) | (apply kI_nl))
        | ((with_reducible show eOk _ _ _ _ _ _); first | (exact eok_nil) | (apply ke_rd; exact rfl) | (apply ke_rg; exact rfl; exact rfl) | (apply ke_cv; exact rfl; kernel_rfl) | (apply ke_al; exact rfl; exact rfl))
        | ((with_reducible apply freshIs_new); kernel_rfl)
        | (simp only [B, xB, F, Nat.reduceLT, Nat.reduceLeDiff, Nat.reduceEqDiff, Nat.reduceAdd, Nat.reduceMul, Nat.reduceSub, ↓reduceIte, eq_self, t7, t10, t12, t14, t9, t16, c14, hne, Bool.not_true, d3, w2]))
      exact ⟨140 - (m + 1), by omega, m + 1, rfl, rfl, by omega, by simp only [B, xB, F, Nat.reduceLT, Nat.reduceLeDiff, Nat.reduceEqDiff, Nat.reduceAdd, Nat.reduceMul, Nat.reduceSub, ↓reduceIte, eq_self, t7], by simp only [B, xB, F, Nat.reduceLT, Nat.reduceLeDiff, Nat.reduceEqDiff, Nat.reduceAdd, Nat.reduceMul, Nat.reduceSub, ↓reduceIte, eq_self, t10], by simp only [B, xB, F, Nat.reduceLT, Nat.reduceLeDiff, Nat.reduceEqDiff, Nat.reduceAdd, Nat.reduceMul, Nat.reduceSub, ↓reduceIte, eq_self, t12], by simp only [B, xB, F, Nat.reduceLT, Nat.reduceLeDiff, Nat.reduceEqDiff, Nat.reduceAdd, Nat.reduceMul, Nat.reduceSub, ↓reduceIte, eq_self, t14], by simp only [B, xB, F, Nat.reduceLT, Nat.reduceLeDiff, Nat.reduceEqDiff, Nat.reduceAdd, Nat.reduceMul, Nat.reduceSub, ↓reduceIte, eq_self, t9], by simp only [B, xB, F, Nat.reduceLT, Nat.reduceLeDiff, Nat.reduceEqDiff, Nat.reduceAdd, Nat.reduceMul, Nat.reduceSub, ↓reduceIte, eq_self], oo.t ((oN.t oO).t oQ)⟩
  · have d2 : decide (m < 140) = false := decide_eq_false hm
    repeat' (first
      | ((with_reducible show codeW _ _ _ _ (codeI _ _) _ _ _ _); first | (apply st_seq; exact rfl) | (refine st_reg ?_ rfl rfl ?_; exact rfl; (conv => arg 4; whnf); (conv => arg 3; whnf)) | (refine st_dp ord3_0 ?_ rfl rfl ?_; exact rfl; (conv => arg 4; whnf); (conv => arg 3; whnf)) | (refine st_dw ?_ rfl rfl ?_ ?_; exact rfl; kernel_rfl; (conv => arg 5; whnf); (conv => arg 3; whnf)) | (refine st_cond ?_ rfl ?_; exact rfl; (conv => arg 1; arg 2; whnf)) | (refine st_block ?_ rfl ?_; exact rfl; (conv => arg 9; arg 1; whnf)) | (apply st_skip; exact rfl) | (refine st_exit ?_ rfl ?_; exact rfl; (conv in exitId _ => whnf)) | (apply st_ret; exact rfl))
      | ((with_reducible refine retW_intro rfl ?_); (conv => arg 2; whnf))
      | ((with_reducible refine ifB_split (fun hb => ?_) (fun hb => ?_)) <;> (try rw [Bool.not_true] at hb) <;> (try rw [Bool.not_false] at hb) <;> (try simp only [hb]))
      | ((with_reducible refine gW_split (fun hb => ?_) (fun hb => ?_)) <;> (try rw [Bool.not_true] at hb) <;> (try rw [Bool.not_false] at hb) <;> (try simp only [hb]))
      | ((with_reducible refine gX_split (fun hb => ?_) (fun hb => ?_)) <;> (try rw [Bool.not_true] at hb) <;> (try rw [Bool.not_false] at hb) <;> (try simp only [hb]))
      | ((with_reducible show drawP _ _ _ _ _ _ _ _ _); first | (apply kP_rd; exact rfl; exact rfl) | (apply kP_rg; exact rfl; exact rfl; exact rfl) | (apply kP_cv; exact rfl; exact rfl; kernel_rfl) | (apply kP_al; exact rfl; exact rfl; exact rfl) | (apply kP_ex; exact rfl; exact rfl; kernel_rfl; exact rfl) | (apply kP_eg; exact rfl; exact rfl; kernel_rfl; exact rfl) | (apply kP_nl))
      | ((with_reducible show drawI _ _ _ _ _ _ _ _ _); first | (apply kI_rd; exact rfl) | (apply kI_rg; exact rfl; exact rfl) | (apply kI_cv; exact rfl; kernel_rfl) | (apply kI_al; exact rfl; exact rfl) | (apply kI_ex; exact rfl; kernel_rfl; exact rfl) | (apply kI_eg; exact rfl; kernel_rfl; exact rfl) | (apply kI_nl))
      | ((with_reducible show eOk _ _ _ _ _ _); first | (exact eok_nil) | (apply ke_rd; exact rfl) | (apply ke_rg; exact rfl; exact rfl) | (apply ke_cv; exact rfl; kernel_rfl) | (apply ke_al; exact rfl; exact rfl))
      | ((with_reducible apply freshIs_new); kernel_rfl)
      | (simp only [B, xB, F, Nat.reduceLT, Nat.reduceLeDiff, Nat.reduceEqDiff, Nat.reduceAdd, Nat.reduceMul, Nat.reduceSub, ↓reduceIte, eq_self, t7, t10, t12, t14, t9, t16, d2]))
    rfl
theorem compactW (h0 : H) (vl : AV) (l : List Nat) (a b : Nat) (ha : a < 256) (hbb : b < 256) (sl : SliceAt h0 vl l.length (u8s l)) (hb : ∀ n, n ∈ l → n < 256) :
    codeW P 3 131 none (bodyC Try.f3) [] (T.fill .e 0 [vl, .int .u8 (.ofNat a), .int .u8 (.ofNat b)]) h0 (retK P Try.f3 PostTrue) := by
  refine codeW_root ?_
  repeat' (first
    | ((with_reducible show codeW _ _ _ _ (codeI _ _) _ _ _ _); first | (apply st_seq; exact rfl) | (refine st_reg ?_ rfl rfl ?_; exact rfl; (conv => arg 4; whnf); (conv => arg 3; whnf)) | (refine st_dp ord3_0 ?_ rfl rfl ?_; exact rfl; (conv => arg 4; whnf); (conv => arg 3; whnf)) | (refine st_dw ?_ rfl rfl ?_ ?_; exact rfl; kernel_rfl; (conv => arg 5; whnf); (conv => arg 3; whnf)) | (refine st_cond ?_ rfl ?_; exact rfl; (conv => arg 1; arg 2; whnf)) | (refine st_block ?_ rfl ?_; exact rfl; (conv => arg 9; arg 1; whnf)) | (apply st_skip; exact rfl) | (refine st_exit ?_ rfl ?_; exact rfl; (conv in exitId _ => whnf)) | (apply st_ret; exact rfl))
    | ((with_reducible refine retW_intro rfl ?_); (conv => arg 2; whnf))
    | ((with_reducible refine ifB_split (fun hb => ?_) (fun hb => ?_)) <;> (try rw [Bool.not_true] at hb) <;> (try rw [Bool.not_false] at hb) <;> (try simp only [hb]))
    | ((with_reducible refine gW_split (fun hb => ?_) (fun hb => ?_)) <;> (try rw [Bool.not_true] at hb) <;> (try rw [Bool.not_false] at hb) <;> (try simp only [hb]))
    | ((with_reducible refine gX_split (fun hb => ?_) (fun hb => ?_)) <;> (try rw [Bool.not_true] at hb) <;> (try rw [Bool.not_false] at hb) <;> (try simp only [hb]))
    | ((with_reducible show drawP _ _ _ _ _ _ _ _ _); first | (apply kP_rd; exact rfl; exact rfl) | (apply kP_rg; exact rfl; exact rfl; exact rfl) | (apply kP_cv; exact rfl; exact rfl; kernel_rfl) | (apply kP_al; exact rfl; exact rfl; exact rfl) | (apply kP_ex; exact rfl; exact rfl; kernel_rfl; exact rfl) | (apply kP_eg; exact rfl; exact rfl; kernel_rfl; exact rfl) | (apply kP_nl))
    | ((with_reducible show drawI _ _ _ _ _ _ _ _ _); first | (apply kI_rd; exact rfl) | (apply kI_rg; exact rfl; exact rfl) | (apply kI_cv; exact rfl; kernel_rfl) | (apply kI_al; exact rfl; exact rfl) | (apply kI_ex; exact rfl; kernel_rfl; exact rfl) | (apply kI_eg; exact rfl; kernel_rfl; exact rfl) | (apply kI_nl))
    | ((with_reducible show eOk _ _ _ _ _ _); first | (exact eok_nil) | (apply ke_rd; exact rfl) | (apply ke_rg; exact rfl; exact rfl) | (apply ke_cv; exact rfl; kernel_rfl) | (apply ke_al; exact rfl; exact rfl))
    | ((with_reducible apply freshIs_new); kernel_rfl)
    | (simp only [B, xB, F, Nat.reduceLT, Nat.reduceLeDiff, Nat.reduceEqDiff, Nat.reduceAdd, Nat.reduceMul, Nat.reduceSub, ↓reduceIte, eq_self]))
  refine worksC _ ?_
  repeat' (first
    | ((with_reducible show codeW _ _ _ _ (codeI _ _) _ _ _ _); first | (apply st_seq; exact rfl) | (refine st_reg ?_ rfl rfl ?_; exact rfl; (conv => arg 4; whnf); (conv => arg 3; whnf)) | (refine st_dp ord3_0 ?_ rfl rfl ?_; exact rfl; (conv => arg 4; whnf); (conv => arg 3; whnf)) | (refine st_dw ?_ rfl rfl ?_ ?_; exact rfl; kernel_rfl; (conv => arg 5; whnf); (conv => arg 3; whnf)) | (refine st_cond ?_ rfl ?_; exact rfl; (conv => arg 1; arg 2; whnf)) | (refine st_block ?_ rfl ?_; exact rfl; (conv => arg 9; arg 1; whnf)) | (apply st_skip; exact rfl) | (refine st_exit ?_ rfl ?_; exact rfl; (conv in exitId _ => whnf)) | (apply st_ret; exact rfl))
    | ((with_reducible refine retW_intro rfl ?_); (conv => arg 2; whnf))
    | ((with_reducible refine ifB_split (fun hb => ?_) (fun hb => ?_)) <;> (try rw [Bool.not_true] at hb) <;> (try rw [Bool.not_false] at hb) <;> (try simp only [hb]))
    | ((with_reducible refine gW_split (fun hb => ?_) (fun hb => ?_)) <;> (try rw [Bool.not_true] at hb) <;> (try rw [Bool.not_false] at hb) <;> (try simp only [hb]))
    | ((with_reducible refine gX_split (fun hb => ?_) (fun hb => ?_)) <;> (try rw [Bool.not_true] at hb) <;> (try rw [Bool.not_false] at hb) <;> (try simp only [hb]))
    | ((with_reducible show drawP _ _ _ _ _ _ _ _ _); first | (apply kP_rd; exact rfl; exact rfl) | (apply kP_rg; exact rfl; exact rfl; exact rfl) | (apply kP_cv; exact rfl; exact rfl; kernel_rfl) | (apply kP_al; exact rfl; exact rfl; exact rfl) | (apply kP_ex; exact rfl; exact rfl; kernel_rfl; exact rfl) | (apply kP_eg; exact rfl; exact rfl; kernel_rfl; exact rfl) | (apply kP_nl))
    | ((with_reducible show drawI _ _ _ _ _ _ _ _ _); first | (apply kI_rd; exact rfl) | (apply kI_rg; exact rfl; exact rfl) | (apply kI_cv; exact rfl; kernel_rfl) | (apply kI_al; exact rfl; exact rfl) | (apply kI_ex; exact rfl; kernel_rfl; exact rfl) | (apply kI_eg; exact rfl; kernel_rfl; exact rfl) | (apply kI_nl))
    | ((with_reducible show eOk _ _ _ _ _ _); first | (exact eok_nil) | (apply ke_rd; exact rfl) | (apply ke_rg; exact rfl; exact rfl) | (apply ke_cv; exact rfl; kernel_rfl) | (apply ke_al; exact rfl; exact rfl))
    | ((with_reducible apply freshIs_new); kernel_rfl)
    | (simp only [B, xB, F, Nat.reduceLT, Nat.reduceLeDiff, Nat.reduceEqDiff, Nat.reduceAdd, Nat.reduceMul, Nat.reduceSub, ↓reduceIte, eq_self]))
  refine ((madeC h0 vl l sl hb).call P).mono P ?_
  rintro v h2 ⟨o2, hg2⟩
  have hmi := mi_made (l.take 40)
  obtain ⟨L, hL⟩ : ∃ L, L = (madeL (l.take 40)).1 := ⟨_, rfl⟩
  have hgood : Good (all L) := by rw [hL]; exact (made_good _ (by rw [List.length_take]; omega)).1
  rw [← hL] at hg2
  have hn40 : (l.take 40).length ≤ 40 := by rw [List.length_take]; omega
  have hz : Sz 40 L := by rw [hL]; exact hmi.sz.le hn40
  obtain ⟨s, rfl, hso, hsc⟩ := hg2.val
  obtain ⟨h3, h3e, o3, x3, c7, -⟩ := boxed h2 s
  have x2 := o2.1
  have q1 : ∀ x : Nat, x < 256 → wrapF .u64 (Int.ofNat (x % 130)) = Int.ofNat (x % 130) := fun x _ => u64_nat (by omega)
  obtain ⟨lo, hlo⟩ : ∃ lo, lo = (if b < a then b else a) := ⟨_, rfl⟩
  obtain ⟨hi, hhi⟩ : ∃ hi, hi = (if a < b then b else a) := ⟨_, rfl⟩
  have hlo2 : lo < 256 := by rw [hlo]; split <;> omega
  have hhi2 : hi < 256 := by rw [hhi]; split <;> omega
  have m1 : (if Int.ofNat b < Int.ofNat a then Int.ofNat b else Int.ofNat a) = Int.ofNat lo := by
    have e : (Int.ofNat b < Int.ofNat a) = (b < a) := propext Int.ofNat_lt
    simp only [hlo, e]; split <;> rfl
  have m2 : (if Int.ofNat a < Int.ofNat b then Int.ofNat b else Int.ofNat a) = Int.ofNat hi := by
    have e : (Int.ofNat a < Int.ofNat b) = (a < b) := propext Int.ofNat_lt
    simp only [hhi, e]; split <;> rfl
  have hg3 := hg2.keep o3
  have b7 : h2.nx < h3.nx := by omega
  cases qd : decide (hi % 130 < lo % 130) with
  | true =>
    have := of_decide_eq_true qd
    have hcd : hi % 130 ≤ lo % 130 := by omega
    have hd : lo % 130 < 130 := by omega
    repeat' (first
      | (with_reducible refine compactR h3 _ s L (hi % 130) (lo % 130) h2.nx hcd hd ?_ ?_ ?_ c7 b7 hg3 hz hgood)
      | ((with_reducible show codeW _ _ _ _ (codeI _ _) _ _ _ _); first | (apply st_seq; exact rfl) | (refine st_reg ?_ rfl rfl ?_; exact rfl; (conv => arg 4; whnf); (conv => arg 3; whnf)) | (refine st_dp ord3_0 ?_ rfl rfl ?_; exact rfl; (conv => arg 4; whnf); (conv => arg 3; whnf)) | (refine st_dw ?_ rfl rfl ?_ ?_; exact rfl; kernel_rfl; (conv => arg 5; whnf); (conv => arg 3; whnf)) | (refine st_cond ?_ rfl ?_; exact rfl; (conv => arg 1; arg 2; whnf)) | (refine st_block ?_ rfl ?_; exact rfl; (conv => arg 9; arg 1; whnf)) | (apply st_skip; exact rfl) | (refine st_exit ?_ rfl ?_; exact rfl; (conv in exitId _ => whnf)) | (apply st_ret; exact rfl))
      | ((with_reducible refine retW_intro rfl ?_); (conv => arg 2; whnf))
      | ((with_reducible refine ifB_split (fun hb => ?_) (fun hb => ?_)) <;> (try rw [Bool.not_true] at hb) <;> (try rw [Bool.not_false] at hb) <;> (try simp only [hb]))
      | ((with_reducible refine gW_split (fun hb => ?_) (fun hb => ?_)) <;> (try rw [Bool.not_true] at hb) <;> (try rw [Bool.not_false] at hb) <;> (try simp only [hb]))
      | ((with_reducible refine gX_split (fun hb => ?_) (fun hb => ?_)) <;> (try rw [Bool.not_true] at hb) <;> (try rw [Bool.not_false] at hb) <;> (try simp only [hb]))
      | ((with_reducible show drawP _ _ _ _ _ _ _ _ _); first | (apply kP_rd; exact rfl; exact rfl) | (apply kP_rg; exact rfl; exact rfl; exact rfl) | (apply kP_cv; exact rfl; exact rfl; kernel_rfl) | (apply kP_al; exact rfl; exact rfl; exact rfl) | (apply kP_ex; exact rfl; exact rfl; kernel_rfl; exact rfl) | (apply kP_eg; exact rfl; exact rfl; kernel_rfl; exact rfl) | (apply kP_nl))
      | ((with_reducible show drawI _ _ _ _ _ _ _ _ _); first | (apply kI_rd; exact rfl) | (apply kI_rg; exact rfl; exact rfl) | (apply kI_cv; exact rfl; kernel_rfl) | (apply kI_al; exact rfl; exact rfl) | (apply kI_ex; exact rfl; kernel_rfl; exact rfl) | (apply kI_eg; exact rfl; kernel_rfl; exact rfl) | (apply kI_nl))
      | ((with_reducible show eOk _ _ _ _ _ _); first | (exact eok_nil) | (apply ke_rd; exact rfl) | (apply ke_rg; exact rfl; exact rfl) | (apply ke_cv; exact rfl; kernel_rfl) | (apply ke_al; exact rfl; exact rfl))
      | ((with_reducible apply freshIs_new); kernel_rfl)
      | (simp only [B, xB, F, Nat.reduceLT, Nat.reduceLeDiff, Nat.reduceEqDiff, Nat.reduceAdd, Nat.reduceMul, Nat.reduceSub, ↓reduceIte, eq_self, hso, hsc, ← h3e, m1, m2, b_rem _ _ _ (nat_ne_zero (show 0 < 130 by omega)), tmod_nat, q1 lo hlo2, q1 hi hhi2, qd]))
  | false =>
    have := of_decide_eq_false qd
    have hcd : lo % 130 ≤ hi % 130 := by omega
    have hd : hi % 130 < 130 := by omega
    repeat' (first
      | (with_reducible refine compactR h3 _ s L (lo % 130) (hi % 130) h2.nx hcd hd ?_ ?_ ?_ c7 b7 hg3 hz hgood)
      | ((with_reducible show codeW _ _ _ _ (codeI _ _) _ _ _ _); first | (apply st_seq; exact rfl) | (refine st_reg ?_ rfl rfl ?_; exact rfl; (conv => arg 4; whnf); (conv => arg 3; whnf)) | (refine st_dp ord3_0 ?_ rfl rfl ?_; exact rfl; (conv => arg 4; whnf); (conv => arg 3; whnf)) | (refine st_dw ?_ rfl rfl ?_ ?_; exact rfl; kernel_rfl; (conv => arg 5; whnf); (conv => arg 3; whnf)) | (refine st_cond ?_ rfl ?_; exact rfl; (conv => arg 1; arg 2; whnf)) | (refine st_block ?_ rfl ?_; exact rfl; (conv => arg 9; arg 1; whnf)) | (apply st_skip; exact rfl) | (refine st_exit ?_ rfl ?_; exact rfl; (conv in exitId _ => whnf)) | (apply st_ret; exact rfl))
      | ((with_reducible refine retW_intro rfl ?_); (conv => arg 2; whnf))
      | ((with_reducible refine ifB_split (fun hb => ?_) (fun hb => ?_)) <;> (try rw [Bool.not_true] at hb) <;> (try rw [Bool.not_false] at hb) <;> (try simp only [hb]))
      | ((with_reducible refine gW_split (fun hb => ?_) (fun hb => ?_)) <;> (try rw [Bool.not_true] at hb) <;> (try rw [Bool.not_false] at hb) <;> (try simp only [hb]))
      | ((with_reducible refine gX_split (fun hb => ?_) (fun hb => ?_)) <;> (try rw [Bool.not_true] at hb) <;> (try rw [Bool.not_false] at hb) <;> (try simp only [hb]))
      | ((with_reducible show drawP _ _ _ _ _ _ _ _ _); first | (apply kP_rd; exact rfl; exact rfl) | (apply kP_rg; exact rfl; exact rfl; exact rfl) | (apply kP_cv; exact rfl; exact rfl; kernel_rfl) | (apply kP_al; exact rfl; exact rfl; exact rfl) | (apply kP_ex; exact rfl; exact rfl; kernel_rfl; exact rfl) | (apply kP_eg; exact rfl; exact rfl; kernel_rfl; exact rfl) | (apply kP_nl))
      | ((with_reducible show drawI _ _ _ _ _ _ _ _ _); first | (apply kI_rd; exact rfl) | (apply kI_rg; exact rfl; exact rfl) | (apply kI_cv; exact rfl; kernel_rfl) | (apply kI_al; exact rfl; exact rfl) | (apply kI_ex; exact rfl; kernel_rfl; exact rfl) | (apply kI_eg; exact rfl; kernel_rfl; exact rfl) | (apply kI_nl))
      | ((with_reducible show eOk _ _ _ _ _ _); first | (exact eok_nil) | (apply ke_rd; exact rfl) | (apply ke_rg; exact rfl; exact rfl) | (apply ke_cv; exact rfl; kernel_rfl) | (apply ke_al; exact rfl; exact rfl))
      | ((with_reducible apply freshIs_new); kernel_rfl)
      | (simp only [B, xB, F, Nat.reduceLT, Nat.reduceLeDiff, Nat.reduceEqDiff, Nat.reduceAdd, Nat.reduceMul, Nat.reduceSub, ↓reduceIte, eq_self, hso, hsc, ← h3e, m1, m2, b_rem _ _ _ (nat_ne_zero (show 0 < 130 by omega)), tmod_nat, q1 lo hlo2, q1 hi hhi2, qd]))
end
end Go.Proofs.Ytlkngpckibidlaa.W

namespace Go.Proofs.Ytlkngpckibidlaa.W
open Go Go.AX
noncomputable section
set_option maxRecDepth 100000
theorem since_all (A : List Ch) : sinceL 0 A = A.map (·.rev) := by
  unfold sinceL; rw [filter_all (fun _ _ => by simp)]
theorem made_len (l : List Nat) : (all (madeL l).1).length ≤ l.length := by
  rcases list_last l with rfl | ⟨Y, b, rfl⟩
  · exact Nat.le_refl _
  · have ih := made_len Y
    have hmi := mi_made Y
    have e : madeL (Y ++ [b]) = madeStep (madeL Y) b := by unfold madeL; rw [List.foldl_append]; rfl
    rw [e, List.length_append]
    generalize madeL Y = S at ih hmi
    unfold madeStep
    simp only
    by_cases q : b % 4 = 0 ∧ opn S.1 = true
    · rw [if_pos q, all_tombL hmi.wf q.2]; simp; omega
    · rw [if_neg q, all_putL hmi.wf]; simp; omega
termination_by l.length
decreasing_by simp_all
theorem wf_some {L : List Gn} (h : WF L) : ∀ g, g ∈ L → gChs g ≠ [] := by
  have he : ∀ g : Gn, g.ended = true → gChs g ≠ [] := fun g q => by rw [gChs_ended q]; simp
  intro g hg
  rcases list_last L with rfl | ⟨Y, x, rfl⟩
  · cases hg
  · rcases List.mem_append.1 hg with q | q
    · exact he g (wf_init h g q)
    · rw [List.mem_singleton] at q; subst q
      cases qe : g.ended with
      | true => exact he g qe
      | false =>
        have := h.outer Y g rfl qe
        unfold gChs
        intro e
        rw [List.append_eq_nil_iff] at e
        have e2 := congrArg List.length e.1
        rw [putChs_len] at e2
        exact this (List.length_eq_zero_iff.1 e2)
theorem len_all {L : List Gn} (h : ∀ g, g ∈ L → gChs g ≠ []) : L.length ≤ (all L).length ∧ ∀ g, g ∈ L → g.puts.length ≤ (all L).length := by
  induction L with
  | nil => exact ⟨Nat.le_refl _, fun _ q => by cases q⟩
  | cons x L ih =>
    obtain ⟨i1, i2⟩ := ih (fun g hg => h g (List.mem_cons_of_mem _ hg))
    have e : all (x :: L) = gChs x ++ all L := by simp [all]
    have hx := h x (by simp)
    have h1 : 0 < (gChs x).length := List.length_pos_iff.2 hx
    have h2 : x.puts.length ≤ (gChs x).length := by unfold gChs; rw [List.length_append, putChs_len]; omega
    rw [e, List.length_append]
    refine ⟨by simp; omega, fun g hg => ?_⟩
    rcases List.mem_cons.1 hg with rfl | q
    · omega
    · have := i2 g q; omega
theorem wf_sz {L : List Gn} (h : WF L) : Sz (all L).length L := len_all (wf_some h)
theorem comp_len {A : List Ch} (hr : Rising A) (m : Nat) : (compA A m).length ≤ A.length := by rw [compA_filter m hr]; exact List.length_filter_le _ _
structure BkI (hs : H) (b5 b7 : Nat) (s5 va : AV) (A : List Ch) (n : Nat) (ds : List Nat) (tm : T AV) (h : H) (i : Nat) (s7 : AV) (M : List Gn) : Prop where
  ds : ds = []
  nn : n = A.length - i
  ii : i ≤ A.length
  t5 : tm.get 5 = some (.ptr b5 0)
  t7 : tm.get 7 = some (.ptr b7 0)
  t8 : tm.get 8 = some va
  t9 : tm.get 9 = some (.int .i64 (.ofNat i))
  oo : Only hs h [b7]
  c7 : cellAt h b7 0 = some s7
  w7 : wrAt h b7 = true
  gg : GensP (fun b => b ≠ b7) h (.agg [s7]) M
  wf : WF M
  al : all M = A.take i
structure BlI (hs : H) (b5 b7 : Nat) (n : Nat) (ds : List Nat) (tm : T AV) (h : H) (m : Nat) : Prop where
  ds : ds = []
  nn : n = 140 - m
  mm : m ≤ 140
  t5 : tm.get 5 = some (.ptr b5 0)
  t7 : tm.get 7 = some (.ptr b7 0)
  t15 : tm.get 15 = some (.int .u64 (.ofNat m))
  oo : Only hs h []
theorem backL (hs : H) (tm : T AV) (b5 b7 : Nat) (x5 s7 : AV) (L M : List Gn) (t5 : tm.get 5 = some (.ptr b5 0)) (t7 : tm.get 7 = some (.ptr b7 0)) (t15 : tm.get 15 = some (.int .u64 (.ofNat 0))) (hb5 : b5 < hs.nx) (hb7 : b7 < hs.nx) (c5 : cellAt hs b5 0 = some x5)
    (c7 : cellAt hs b7 0 = some s7) (hgL : GensAt hs (.agg [x5]) L) (hgM : GensAt hs (.agg [s7]) M) (hz : Sz 1000 L) (hzM : Sz 1000 M) (ha : all M = all L) (hn : NthPos (all L)) :
    codeW P 6 110 none (codeI (bodyC Try.f6) [0, 1, 0, 1, 1, 1, 1, 1, 1, 1]) [] tm hs (blkK 2 (seqK (codeK P 6 110 none (codeI (bodyC Try.f6) [1, 1, 1, 1, 1, 1, 1, 1]) (retK P Try.f6 PostTrue)) (retK P Try.f6 PostTrue))) := by
  refine st_loop (fun n ds tm h' => ∃ m, BlI hs b5 b7 n ds tm h' m) 140 rfl ⟨0, rfl, rfl, by omega, t5, t7, t15, Only.refl _ _⟩ (fun n ds tm h hI => ?_)
  obtain ⟨m, rfl, rfl, mm, t5, t7, t15, oo⟩ := hI
  have x0 := oo.1
  have xoo := oo.1
  first | replace c5 := kcell c5 oo (by omega) (by simp) | replace c5 := kwr c5 oo (by omega) (by simp)
  first | replace c7 := kcell c7 oo (by omega) (by simp) | replace c7 := kwr c7 oo (by omega) (by simp)
  replace hgL := hgL.keep oo
  replace hgM := hgM.keep oo
  by_cases hm : m < 140
  · have d2 : decide (m < 140) = true := decide_eq_true hm
    have w2 : wrapF .u64 (Int.ofNat m + Int.ofNat 1) = Int.ofNat (m + 1) := u64_add (by omega)
    have hA1 := atIs_of (L := M) (M := L) (m := m) (by rw [ha]) hn
    repeat' (first
      | ((with_reducible show codeW _ _ _ _ (codeI _ _) _ _ _ _); first | (apply st_seq; exact rfl) | (refine st_reg ?_ rfl rfl ?_; exact rfl; (conv => arg 4; whnf); (conv => arg 3; whnf)) | (refine st_dp ord6_0 ?_ rfl rfl ?_; exact rfl; (conv => arg 4; whnf); (conv => arg 3; whnf)) | (refine st_dp ord6_1 ?_ rfl rfl ?_; exact rfl; (conv => arg 4; whnf); (conv => arg 3; whnf)) | (refine st_dw ?_ rfl rfl ?_ ?_; exact rfl; kernel_rfl; (conv => arg 5; whnf); (conv => arg 3; whnf)) | (refine st_cond ?_ rfl ?_; exact rfl; (conv => arg 1; arg 2; whnf)) | (refine st_block ?_ rfl ?_; exact rfl; (conv => arg 9; arg 1; whnf)) | (apply st_skip; exact rfl) | (refine st_exit ?_ rfl ?_; exact rfl; (conv in exitId _ => whnf)) | (apply st_ret; exact rfl))
      | ((with_reducible refine retW_intro rfl ?_); (conv => arg 2; whnf))
      | ((with_reducible refine ifB_split (fun hb => ?_) (fun hb => ?_)) <;> (try rw [Bool.not_true] at hb) <;> (try rw [Bool.not_false] at hb) <;> (try simp only [hb]))
      | ((with_reducible refine gW_split (fun hb => ?_) (fun hb => ?_)) <;> (try rw [Bool.not_true] at hb) <;> (try rw [Bool.not_false] at hb) <;> (try simp only [hb]))
      | ((with_reducible refine gX_split (fun hb => ?_) (fun hb => ?_)) <;> (try rw [Bool.not_true] at hb) <;> (try rw [Bool.not_false] at hb) <;> (try simp only [hb]))
      | ((with_reducible show drawP _ _ _ _ _ _ _ _ _); first | (apply kP_rd; exact rfl; exact rfl) | (apply kP_rg; exact rfl; exact rfl; exact rfl) | (apply kP_cv; exact rfl; exact rfl; kernel_rfl) | (apply kP_al; exact rfl; exact rfl; exact rfl) | (apply kP_ex; exact rfl; exact rfl; kernel_rfl; exact rfl) | (apply kP_eg; exact rfl; exact rfl; kernel_rfl; exact rfl) | (apply kP_nl))
      | ((with_reducible show drawI _ _ _ _ _ _ _ _ _); first | (apply kI_rd; exact rfl) | (apply kI_rg; exact rfl; exact rfl) | (apply kI_cv; exact rfl; kernel_rfl) | (apply kI_al; exact rfl; exact rfl) | (apply kI_ex; exact rfl; kernel_rfl; exact rfl) | (apply kI_eg; exact rfl; kernel_rfl; exact rfl) | (apply kI_nl))
      | ((with_reducible show eOk _ _ _ _ _ _); first | (exact eok_nil) | (apply ke_rd; exact rfl) | (apply ke_rg; exact rfl; exact rfl) | (apply ke_cv; exact rfl; kernel_rfl) | (apply ke_al; exact rfl; exact rfl))
      | ((with_reducible apply freshIs_new); kernel_rfl)
      | (simp only [B, xB, F, Nat.reduceLT, Nat.reduceLeDiff, Nat.reduceEqDiff, Nat.reduceAdd, Nat.reduceMul, Nat.reduceSub, ↓reduceIte, eq_self, t5, t7, t15, d2, c5, c7]))
    refine ((atC h _ L m hgL hz).call P).mono P ?_
    rintro v hN ⟨rfl, oN⟩
    obtain ⟨k, hk⟩ : ∃ k, k = atK L m := ⟨_, rfl⟩
    rw [← hk] at hA1 ⊢
    have ek : rvA k.rev = .agg [.int .u64 (.ofNat k.rev.1), .int .u64 (.ofNat k.rev.2)] := rfl
    rw [ek]
    unfold n64
    have xoN := oN.1
    first | replace c5 := kcell c5 oN (by omega) (by simp) | replace c5 := kwr c5 oN (by omega) (by simp)
    first | replace c7 := kcell c7 oN (by omega) (by simp) | replace c7 := kwr c7 oN (by omega) (by simp)
    replace hgL := hgL.keep oN
    replace hgM := hgM.keep oN
    obtain ⟨hO, hOe⟩ : ∃ hO, hO = (hN.newCells 35 [.int .u64 (.ofNat 0), .int .u64 (.ofNat 0)]).sts hN.nx 0 [.int .u64 (.ofNat k.rev.1), .int .u64 (.ofNat k.rev.2)] := ⟨_, rfl⟩
    have oO : Only hN hO [] := by rw [hOe]; exact ((Only.refl _ _).new _ _).sts (.inr (Nat.le_refl _))
    have r0 : cellAt hO hN.nx 0 = some (.int .u64 (.ofNat k.rev.1)) := by rw [hOe]; simp only [B, xB, F, Nat.reduceLT, Nat.reduceLeDiff, Nat.reduceEqDiff, Nat.reduceAdd, Nat.reduceMul, Nat.reduceSub, ↓reduceIte, eq_self]
    have r1 : cellAt hO hN.nx 1 = some (.int .u64 (.ofNat k.rev.2)) := by rw [hOe]; simp only [B, xB, F, Nat.reduceLT, Nat.reduceLeDiff, Nat.reduceEqDiff, Nat.reduceAdd, Nat.reduceMul, Nat.reduceSub, ↓reduceIte, eq_self]
    have xoO := oO.1
    first | replace c5 := kcell c5 oO (by omega) (by simp) | replace c5 := kwr c5 oO (by omega) (by simp)
    first | replace c7 := kcell c7 oO (by omega) (by simp) | replace c7 := kwr c7 oO (by omega) (by simp)
    replace hgL := hgL.keep oO
    replace hgM := hgM.keep oO
    repeat' (first
      | ((with_reducible show codeW _ _ _ _ (codeI _ _) _ _ _ _); first | (apply st_seq; exact rfl) | (refine st_reg ?_ rfl rfl ?_; exact rfl; (conv => arg 4; whnf); (conv => arg 3; whnf)) | (refine st_dp ord6_0 ?_ rfl rfl ?_; exact rfl; (conv => arg 4; whnf); (conv => arg 3; whnf)) | (refine st_dp ord6_1 ?_ rfl rfl ?_; exact rfl; (conv => arg 4; whnf); (conv => arg 3; whnf)) | (refine st_dw ?_ rfl rfl ?_ ?_; exact rfl; kernel_rfl; (conv => arg 5; whnf); (conv => arg 3; whnf)) | (refine st_cond ?_ rfl ?_; exact rfl; (conv => arg 1; arg 2; whnf)) | (refine st_block ?_ rfl ?_; exact rfl; (conv => arg 9; arg 1; whnf)) | (apply st_skip; exact rfl) | (refine st_exit ?_ rfl ?_; exact rfl; (conv in exitId _ => whnf)) | (apply st_ret; exact rfl))
      | ((with_reducible refine retW_intro rfl ?_); (conv => arg 2; whnf))
      | ((with_reducible refine ifB_split (fun hb => ?_) (fun hb => ?_)) <;> (try rw [Bool.not_true] at hb) <;> (try rw [Bool.not_false] at hb) <;> (try simp only [hb]))
      | ((with_reducible refine gW_split (fun hb => ?_) (fun hb => ?_)) <;> (try rw [Bool.not_true] at hb) <;> (try rw [Bool.not_false] at hb) <;> (try simp only [hb]))
      | ((with_reducible refine gX_split (fun hb => ?_) (fun hb => ?_)) <;> (try rw [Bool.not_true] at hb) <;> (try rw [Bool.not_false] at hb) <;> (try simp only [hb]))
      | ((with_reducible show drawP _ _ _ _ _ _ _ _ _); first | (apply kP_rd; exact rfl; exact rfl) | (apply kP_rg; exact rfl; exact rfl; exact rfl) | (apply kP_cv; exact rfl; exact rfl; kernel_rfl) | (apply kP_al; exact rfl; exact rfl; exact rfl) | (apply kP_ex; exact rfl; exact rfl; kernel_rfl; exact rfl) | (apply kP_eg; exact rfl; exact rfl; kernel_rfl; exact rfl) | (apply kP_nl))
      | ((with_reducible show drawI _ _ _ _ _ _ _ _ _); first | (apply kI_rd; exact rfl) | (apply kI_rg; exact rfl; exact rfl) | (apply kI_cv; exact rfl; kernel_rfl) | (apply kI_al; exact rfl; exact rfl) | (apply kI_ex; exact rfl; kernel_rfl; exact rfl) | (apply kI_eg; exact rfl; kernel_rfl; exact rfl) | (apply kI_nl))
      | ((with_reducible show eOk _ _ _ _ _ _); first | (exact eok_nil) | (apply ke_rd; exact rfl) | (apply ke_rg; exact rfl; exact rfl) | (apply ke_cv; exact rfl; kernel_rfl) | (apply ke_al; exact rfl; exact rfl))
      | ((with_reducible apply freshIs_new); kernel_rfl)
      | (simp only [B, xB, F, Nat.reduceLT, Nat.reduceLeDiff, Nat.reduceEqDiff, Nat.reduceAdd, Nat.reduceMul, Nat.reduceSub, ↓reduceIte, eq_self, t5, t7, t15, ← hOe, c7, r0, r1]))
    refine ((atIsC hO _ M m k.rev k.made k.nth hgM hzM).call P).mono P ?_
    rintro v hQ ⟨rfl, oQ⟩
    rw [hA1.1]
    repeat' (first
      | ((with_reducible show codeW _ _ _ _ (codeI _ _) _ _ _ _); first | (apply st_seq; exact rfl) | (refine st_reg ?_ rfl rfl ?_; exact rfl; (conv => arg 4; whnf); (conv => arg 3; whnf)) | (refine st_dp ord6_0 ?_ rfl rfl ?_; exact rfl; (conv => arg 4; whnf); (conv => arg 3; whnf)) | (refine st_dp ord6_1 ?_ rfl rfl ?_; exact rfl; (conv => arg 4; whnf); (conv => arg 3; whnf)) | (refine st_dw ?_ rfl rfl ?_ ?_; exact rfl; kernel_rfl; (conv => arg 5; whnf); (conv => arg 3; whnf)) | (refine st_cond ?_ rfl ?_; exact rfl; (conv => arg 1; arg 2; whnf)) | (refine st_block ?_ rfl ?_; exact rfl; (conv => arg 9; arg 1; whnf)) | (apply st_skip; exact rfl) | (refine st_exit ?_ rfl ?_; exact rfl; (conv in exitId _ => whnf)) | (apply st_ret; exact rfl))
      | ((with_reducible refine retW_intro rfl ?_); (conv => arg 2; whnf))
      | ((with_reducible refine ifB_split (fun hb => ?_) (fun hb => ?_)) <;> (try rw [Bool.not_true] at hb) <;> (try rw [Bool.not_false] at hb) <;> (try simp only [hb]))
      | ((with_reducible refine gW_split (fun hb => ?_) (fun hb => ?_)) <;> (try rw [Bool.not_true] at hb) <;> (try rw [Bool.not_false] at hb) <;> (try simp only [hb]))
      | ((with_reducible refine gX_split (fun hb => ?_) (fun hb => ?_)) <;> (try rw [Bool.not_true] at hb) <;> (try rw [Bool.not_false] at hb) <;> (try simp only [hb]))
      | ((with_reducible show drawP _ _ _ _ _ _ _ _ _); first | (apply kP_rd; exact rfl; exact rfl) | (apply kP_rg; exact rfl; exact rfl; exact rfl) | (apply kP_cv; exact rfl; exact rfl; kernel_rfl) | (apply kP_al; exact rfl; exact rfl; exact rfl) | (apply kP_ex; exact rfl; exact rfl; kernel_rfl; exact rfl) | (apply kP_eg; exact rfl; exact rfl; kernel_rfl; exact rfl) | (apply kP_nl))
      | ((with_reducible show drawI _ _ _ _ _ _ _ _ _); first | (apply kI_rd; exact rfl) | (apply kI_rg; exact rfl; exact rfl) | (apply kI_cv; exact rfl; kernel_rfl) | (apply kI_al; exact rfl; exact rfl) | (apply kI_ex; exact rfl; kernel_rfl; exact rfl) | (apply kI_eg; exact rfl; kernel_rfl; exact rfl) | (apply kI_nl))
      | ((with_reducible show eOk _ _ _ _ _ _); first | (exact eok_nil) | (apply ke_rd; exact rfl) | (apply ke_rg; exact rfl; exact rfl) | (apply ke_cv; exact rfl; kernel_rfl) | (apply ke_al; exact rfl; exact rfl))
      | ((with_reducible apply freshIs_new); kernel_rfl)
      | (simp only [B, xB, F, Nat.reduceLT, Nat.reduceLeDiff, Nat.reduceEqDiff, Nat.reduceAdd, Nat.reduceMul, Nat.reduceSub, ↓reduceIte, eq_self, t5, t7, t15, Bool.not_true, w2]))
    exact ⟨140 - (m + 1), by omega, m + 1, rfl, rfl, by omega, by simp only [B, xB, F, Nat.reduceLT, Nat.reduceLeDiff, Nat.reduceEqDiff, Nat.reduceAdd, Nat.reduceMul, Nat.reduceSub, ↓reduceIte, eq_self, t5], by simp only [B, xB, F, Nat.reduceLT, Nat.reduceLeDiff, Nat.reduceEqDiff, Nat.reduceAdd, Nat.reduceMul, Nat.reduceSub, ↓reduceIte, eq_self, t7], by simp only [B, xB, F, Nat.reduceLT, Nat.reduceLeDiff, Nat.reduceEqDiff, Nat.reduceAdd, Nat.reduceMul, Nat.reduceSub, ↓reduceIte, eq_self], oo.t ((oN.t oO).t oQ)⟩
  · have d2 : decide (m < 140) = false := decide_eq_false hm
    repeat' (first
      | ((with_reducible show codeW _ _ _ _ (codeI _ _) _ _ _ _); first | (apply st_seq; exact rfl) | (refine st_reg ?_ rfl rfl ?_; exact rfl; (conv => arg 4; whnf); (conv => arg 3; whnf)) | (refine st_dp ord6_0 ?_ rfl rfl ?_; exact rfl; (conv => arg 4; whnf); (conv => arg 3; whnf)) | (refine st_dp ord6_1 ?_ rfl rfl ?_; exact rfl; (conv => arg 4; whnf); (conv => arg 3; whnf)) | (refine st_dw ?_ rfl rfl ?_ ?_; exact rfl; kernel_rfl; (conv => arg 5; whnf); (conv => arg 3; whnf)) | (refine st_cond ?_ rfl ?_; exact rfl; (conv => arg 1; arg 2; whnf)) | (refine st_block ?_ rfl ?_; exact rfl; (conv => arg 9; arg 1; whnf)) | (apply st_skip; exact rfl) | (refine st_exit ?_ rfl ?_; exact rfl; (conv in exitId _ => whnf)) | (apply st_ret; exact rfl))
      | ((with_reducible refine retW_intro rfl ?_); (conv => arg 2; whnf))
      | ((with_reducible refine ifB_split (fun hb => ?_) (fun hb => ?_)) <;> (try rw [Bool.not_true] at hb) <;> (try rw [Bool.not_false] at hb) <;> (try simp only [hb]))
      | ((with_reducible refine gW_split (fun hb => ?_) (fun hb => ?_)) <;> (try rw [Bool.not_true] at hb) <;> (try rw [Bool.not_false] at hb) <;> (try simp only [hb]))
      | ((with_reducible refine gX_split (fun hb => ?_) (fun hb => ?_)) <;> (try rw [Bool.not_true] at hb) <;> (try rw [Bool.not_false] at hb) <;> (try simp only [hb]))
      | ((with_reducible show drawP _ _ _ _ _ _ _ _ _); first | (apply kP_rd; exact rfl; exact rfl) | (apply kP_rg; exact rfl; exact rfl; exact rfl) | (apply kP_cv; exact rfl; exact rfl; kernel_rfl) | (apply kP_al; exact rfl; exact rfl; exact rfl) | (apply kP_ex; exact rfl; exact rfl; kernel_rfl; exact rfl) | (apply kP_eg; exact rfl; exact rfl; kernel_rfl; exact rfl) | (apply kP_nl))
      | ((with_reducible show drawI _ _ _ _ _ _ _ _ _); first | (apply kI_rd; exact rfl) | (apply kI_rg; exact rfl; exact rfl) | (apply kI_cv; exact rfl; kernel_rfl) | (apply kI_al; exact rfl; exact rfl) | (apply kI_ex; exact rfl; kernel_rfl; exact rfl) | (apply kI_eg; exact rfl; kernel_rfl; exact rfl) | (apply kI_nl))
      | ((with_reducible show eOk _ _ _ _ _ _); first | (exact eok_nil) | (apply ke_rd; exact rfl) | (apply ke_rg; exact rfl; exact rfl) | (apply ke_cv; exact rfl; kernel_rfl) | (apply ke_al; exact rfl; exact rfl))
      | ((with_reducible apply freshIs_new); kernel_rfl)
      | (simp only [B, xB, F, Nat.reduceLT, Nat.reduceLeDiff, Nat.reduceEqDiff, Nat.reduceAdd, Nat.reduceMul, Nat.reduceSub, ↓reduceIte, eq_self, t5, t7, t15, d2]))
    rfl
set_option maxHeartbeats 1000000 in
theorem backW (h0 : H) (vl : AV) (l : List Nat) (a : Nat) (ha : a < 256) (sl : SliceAt h0 vl l.length (u8s l)) (hb : ∀ n, n ∈ l → n < 256) :
    codeW P 6 110 none (bodyC Try.f6) [] (T.fill .e 0 [vl, .int .u8 (.ofNat a)]) h0 (retK P Try.f6 PostTrue) := by
  refine codeW_root ?_
  repeat' (first
    | ((with_reducible show codeW _ _ _ _ (codeI _ _) _ _ _ _); first | (apply st_seq; exact rfl) | (refine st_reg ?_ rfl rfl ?_; exact rfl; (conv => arg 4; whnf); (conv => arg 3; whnf)) | (refine st_dp ord6_0 ?_ rfl rfl ?_; exact rfl; (conv => arg 4; whnf); (conv => arg 3; whnf)) | (refine st_dp ord6_1 ?_ rfl rfl ?_; exact rfl; (conv => arg 4; whnf); (conv => arg 3; whnf)) | (refine st_dw ?_ rfl rfl ?_ ?_; exact rfl; kernel_rfl; (conv => arg 5; whnf); (conv => arg 3; whnf)) | (refine st_cond ?_ rfl ?_; exact rfl; (conv => arg 1; arg 2; whnf)) | (refine st_block ?_ rfl ?_; exact rfl; (conv => arg 9; arg 1; whnf)) | (apply st_skip; exact rfl) | (refine st_exit ?_ rfl ?_; exact rfl; (conv in exitId _ => whnf)) | (apply st_ret; exact rfl))
    | ((with_reducible refine retW_intro rfl ?_); (conv => arg 2; whnf))
    | ((with_reducible refine ifB_split (fun hb => ?_) (fun hb => ?_)) <;> (try rw [Bool.not_true] at hb) <;> (try rw [Bool.not_false] at hb) <;> (try simp only [hb]))
    | ((with_reducible refine gW_split (fun hb => ?_) (fun hb => ?_)) <;> (try rw [Bool.not_true] at hb) <;> (try rw [Bool.not_false] at hb) <;> (try simp only [hb]))
    | ((with_reducible refine gX_split (fun hb => ?_) (fun hb => ?_)) <;> (try rw [Bool.not_true] at hb) <;> (try rw [Bool.not_false] at hb) <;> (try simp only [hb]))
    | ((with_reducible show drawP _ _ _ _ _ _ _ _ _); first | (apply kP_rd; exact rfl; exact rfl) | (apply kP_rg; exact rfl; exact rfl; exact rfl) | (apply kP_cv; exact rfl; exact rfl; kernel_rfl) | (apply kP_al; exact rfl; exact rfl; exact rfl) | (apply kP_ex; exact rfl; exact rfl; kernel_rfl; exact rfl) | (apply kP_eg; exact rfl; exact rfl; kernel_rfl; exact rfl) | (apply kP_nl))
    | ((with_reducible show drawI _ _ _ _ _ _ _ _ _); first | (apply kI_rd; exact rfl) | (apply kI_rg; exact rfl; exact rfl) | (apply kI_cv; exact rfl; kernel_rfl) | (apply kI_al; exact rfl; exact rfl) | (apply kI_ex; exact rfl; kernel_rfl; exact rfl) | (apply kI_eg; exact rfl; kernel_rfl; exact rfl) | (apply kI_nl))
    | ((with_reducible show eOk _ _ _ _ _ _); first | (exact eok_nil) | (apply ke_rd; exact rfl) | (apply ke_rg; exact rfl; exact rfl) | (apply ke_cv; exact rfl; kernel_rfl) | (apply ke_al; exact rfl; exact rfl))
    | ((with_reducible apply freshIs_new); kernel_rfl)
    | (simp only [B, xB, F, Nat.reduceLT, Nat.reduceLeDiff, Nat.reduceEqDiff, Nat.reduceAdd, Nat.reduceMul, Nat.reduceSub, ↓reduceIte, eq_self]))
  refine worksC _ ?_
  have q1 : wrapF .u64 (Int.ofNat (a % 130)) = Int.ofNat (a % 130) := u64_nat (by omega)
  repeat' (first
    | ((with_reducible show codeW _ _ _ _ (codeI _ _) _ _ _ _); first | (apply st_seq; exact rfl) | (refine st_reg ?_ rfl rfl ?_; exact rfl; (conv => arg 4; whnf); (conv => arg 3; whnf)) | (refine st_dp ord6_0 ?_ rfl rfl ?_; exact rfl; (conv => arg 4; whnf); (conv => arg 3; whnf)) | (refine st_dp ord6_1 ?_ rfl rfl ?_; exact rfl; (conv => arg 4; whnf); (conv => arg 3; whnf)) | (refine st_dw ?_ rfl rfl ?_ ?_; exact rfl; kernel_rfl; (conv => arg 5; whnf); (conv => arg 3; whnf)) | (refine st_cond ?_ rfl ?_; exact rfl; (conv => arg 1; arg 2; whnf)) | (refine st_block ?_ rfl ?_; exact rfl; (conv => arg 9; arg 1; whnf)) | (apply st_skip; exact rfl) | (refine st_exit ?_ rfl ?_; exact rfl; (conv in exitId _ => whnf)) | (apply st_ret; exact rfl))
    | ((with_reducible refine retW_intro rfl ?_); (conv => arg 2; whnf))
    | ((with_reducible refine ifB_split (fun hb => ?_) (fun hb => ?_)) <;> (try rw [Bool.not_true] at hb) <;> (try rw [Bool.not_false] at hb) <;> (try simp only [hb]))
    | ((with_reducible refine gW_split (fun hb => ?_) (fun hb => ?_)) <;> (try rw [Bool.not_true] at hb) <;> (try rw [Bool.not_false] at hb) <;> (try simp only [hb]))
    | ((with_reducible refine gX_split (fun hb => ?_) (fun hb => ?_)) <;> (try rw [Bool.not_true] at hb) <;> (try rw [Bool.not_false] at hb) <;> (try simp only [hb]))
    | ((with_reducible show drawP _ _ _ _ _ _ _ _ _); first | (apply kP_rd; exact rfl; exact rfl) | (apply kP_rg; exact rfl; exact rfl; exact rfl) | (apply kP_cv; exact rfl; exact rfl; kernel_rfl) | (apply kP_al; exact rfl; exact rfl; exact rfl) | (apply kP_ex; exact rfl; exact rfl; kernel_rfl; exact rfl) | (apply kP_eg; exact rfl; exact rfl; kernel_rfl; exact rfl) | (apply kP_nl))
    | ((with_reducible show drawI _ _ _ _ _ _ _ _ _); first | (apply kI_rd; exact rfl) | (apply kI_rg; exact rfl; exact rfl) | (apply kI_cv; exact rfl; kernel_rfl) | (apply kI_al; exact rfl; exact rfl) | (apply kI_ex; exact rfl; kernel_rfl; exact rfl) | (apply kI_eg; exact rfl; kernel_rfl; exact rfl) | (apply kI_nl))
    | ((with_reducible show eOk _ _ _ _ _ _); first | (exact eok_nil) | (apply ke_rd; exact rfl) | (apply ke_rg; exact rfl; exact rfl) | (apply ke_cv; exact rfl; kernel_rfl) | (apply ke_al; exact rfl; exact rfl))
    | ((with_reducible apply freshIs_new); kernel_rfl)
    | (simp only [B, xB, F, Nat.reduceLT, Nat.reduceLeDiff, Nat.reduceEqDiff, Nat.reduceAdd, Nat.reduceMul, Nat.reduceSub, ↓reduceIte, eq_self]))
  refine ((madeC h0 vl l sl hb).call P).mono P ?_
  rintro v h1 ⟨o1, hg1⟩
  have hmi := mi_made (l.take 40)
  obtain ⟨L0, hL0⟩ : ∃ L, L = (madeL (l.take 40)).1 := ⟨_, rfl⟩
  have hgood0 : Good (all L0) := by rw [hL0]; exact (made_good _ (by rw [List.length_take]; omega)).1
  rw [← hL0] at hg1
  have hn40 : (l.take 40).length ≤ 40 := by rw [List.length_take]; omega
  have hz0 : Sz 40 L0 := by rw [hL0]; exact hmi.sz.le hn40
  have hw0 : WF L0 := by rw [hL0]; exact hmi.wf
  obtain ⟨s, rfl, hso, hsc⟩ := hg1.val
  repeat' (first
    | ((with_reducible show codeW _ _ _ _ (codeI _ _) _ _ _ _); first | (apply st_seq; exact rfl) | (refine st_reg ?_ rfl rfl ?_; exact rfl; (conv => arg 4; whnf); (conv => arg 3; whnf)) | (refine st_dp ord6_0 ?_ rfl rfl ?_; exact rfl; (conv => arg 4; whnf); (conv => arg 3; whnf)) | (refine st_dp ord6_1 ?_ rfl rfl ?_; exact rfl; (conv => arg 4; whnf); (conv => arg 3; whnf)) | (refine st_dw ?_ rfl rfl ?_ ?_; exact rfl; kernel_rfl; (conv => arg 5; whnf); (conv => arg 3; whnf)) | (refine st_cond ?_ rfl ?_; exact rfl; (conv => arg 1; arg 2; whnf)) | (refine st_block ?_ rfl ?_; exact rfl; (conv => arg 9; arg 1; whnf)) | (apply st_skip; exact rfl) | (refine st_exit ?_ rfl ?_; exact rfl; (conv in exitId _ => whnf)) | (apply st_ret; exact rfl))
    | ((with_reducible refine retW_intro rfl ?_); (conv => arg 2; whnf))
    | ((with_reducible refine ifB_split (fun hb => ?_) (fun hb => ?_)) <;> (try rw [Bool.not_true] at hb) <;> (try rw [Bool.not_false] at hb) <;> (try simp only [hb]))
    | ((with_reducible refine gW_split (fun hb => ?_) (fun hb => ?_)) <;> (try rw [Bool.not_true] at hb) <;> (try rw [Bool.not_false] at hb) <;> (try simp only [hb]))
    | ((with_reducible refine gX_split (fun hb => ?_) (fun hb => ?_)) <;> (try rw [Bool.not_true] at hb) <;> (try rw [Bool.not_false] at hb) <;> (try simp only [hb]))
    | ((with_reducible show drawP _ _ _ _ _ _ _ _ _); first | (apply kP_rd; exact rfl; exact rfl) | (apply kP_rg; exact rfl; exact rfl; exact rfl) | (apply kP_cv; exact rfl; exact rfl; kernel_rfl) | (apply kP_al; exact rfl; exact rfl; exact rfl) | (apply kP_ex; exact rfl; exact rfl; kernel_rfl; exact rfl) | (apply kP_eg; exact rfl; exact rfl; kernel_rfl; exact rfl) | (apply kP_nl))
    | ((with_reducible show drawI _ _ _ _ _ _ _ _ _); first | (apply kI_rd; exact rfl) | (apply kI_rg; exact rfl; exact rfl) | (apply kI_cv; exact rfl; kernel_rfl) | (apply kI_al; exact rfl; exact rfl) | (apply kI_ex; exact rfl; kernel_rfl; exact rfl) | (apply kI_eg; exact rfl; kernel_rfl; exact rfl) | (apply kI_nl))
    | ((with_reducible show eOk _ _ _ _ _ _); first | (exact eok_nil) | (apply ke_rd; exact rfl) | (apply ke_rg; exact rfl; exact rfl) | (apply ke_cv; exact rfl; kernel_rfl) | (apply ke_al; exact rfl; exact rfl))
    | ((with_reducible apply freshIs_new); kernel_rfl)
    | (simp only [B, xB, F, Nat.reduceLT, Nat.reduceLeDiff, Nat.reduceEqDiff, Nat.reduceAdd, Nat.reduceMul, Nat.reduceSub, ↓reduceIte, eq_self, b_rem _ _ _ (nat_ne_zero (show 0 < 130 by omega)), tmod_nat, q1, hso, hsc]))
  obtain ⟨L, hL⟩ : ∃ L, L = compL L0 (a % 130) := ⟨_, rfl⟩
  have hal : all L = compA (all L0) (a % 130) := by rw [hL]; exact all_compL _ hgood0.rising
  have hgood : Good (all L) := by rw [hal]; exact hgood0.comp hgood0.rising _
  have hwf : WF L := by rw [hL]; exact wf_comp hw0 _
  have hlen : (all L).length ≤ 40 := by
    rw [hal]
    refine Nat.le_trans (comp_len hgood0.rising _) ?_
    rw [hL0]; exact Nat.le_trans (made_len _) hn40
  have hz : Sz 1000 L := (wf_sz hwf).le (by omega)
  refine ((compC (fun _ => True) h1 _ L0 (a % 130) (fun _ _ => trivial) hg1 (hz0.le (by omega))).call P).mono P ?_
  rintro v h2 ⟨o2, gv, k2, rfl, hg2, gr2⟩
  rw [← hL] at hg2
  obtain ⟨x5, rfl, hxo, hxc⟩ := hg2.val
  have go2 := gr2.one
  have gc2 := gr2.cells
  obtain ⟨h3, h3e, o3, x3, c5, -⟩ := boxed h2 x5
  repeat' (first
    | ((with_reducible show codeW _ _ _ _ (codeI _ _) _ _ _ _); first | (apply st_seq; exact rfl) | (refine st_reg ?_ rfl rfl ?_; exact rfl; (conv => arg 4; whnf); (conv => arg 3; whnf)) | (refine st_dp ord6_0 ?_ rfl rfl ?_; exact rfl; (conv => arg 4; whnf); (conv => arg 3; whnf)) | (refine st_dp ord6_1 ?_ rfl rfl ?_; exact rfl; (conv => arg 4; whnf); (conv => arg 3; whnf)) | (refine st_dw ?_ rfl rfl ?_ ?_; exact rfl; kernel_rfl; (conv => arg 5; whnf); (conv => arg 3; whnf)) | (refine st_cond ?_ rfl ?_; exact rfl; (conv => arg 1; arg 2; whnf)) | (refine st_block ?_ rfl ?_; exact rfl; (conv => arg 9; arg 1; whnf)) | (apply st_skip; exact rfl) | (refine st_exit ?_ rfl ?_; exact rfl; (conv in exitId _ => whnf)) | (apply st_ret; exact rfl))
    | ((with_reducible refine retW_intro rfl ?_); (conv => arg 2; whnf))
    | ((with_reducible refine ifB_split (fun hb => ?_) (fun hb => ?_)) <;> (try rw [Bool.not_true] at hb) <;> (try rw [Bool.not_false] at hb) <;> (try simp only [hb]))
    | ((with_reducible refine gW_split (fun hb => ?_) (fun hb => ?_)) <;> (try rw [Bool.not_true] at hb) <;> (try rw [Bool.not_false] at hb) <;> (try simp only [hb]))
    | ((with_reducible refine gX_split (fun hb => ?_) (fun hb => ?_)) <;> (try rw [Bool.not_true] at hb) <;> (try rw [Bool.not_false] at hb) <;> (try simp only [hb]))
    | ((with_reducible show drawP _ _ _ _ _ _ _ _ _); first | (apply kP_rd; exact rfl; exact rfl) | (apply kP_rg; exact rfl; exact rfl; exact rfl) | (apply kP_cv; exact rfl; exact rfl; kernel_rfl) | (apply kP_al; exact rfl; exact rfl; exact rfl) | (apply kP_ex; exact rfl; exact rfl; kernel_rfl; exact rfl) | (apply kP_eg; exact rfl; exact rfl; kernel_rfl; exact rfl) | (apply kP_nl))
    | ((with_reducible show drawI _ _ _ _ _ _ _ _ _); first | (apply kI_rd; exact rfl) | (apply kI_rg; exact rfl; exact rfl) | (apply kI_cv; exact rfl; kernel_rfl) | (apply kI_al; exact rfl; exact rfl) | (apply kI_ex; exact rfl; kernel_rfl; exact rfl) | (apply kI_eg; exact rfl; kernel_rfl; exact rfl) | (apply kI_nl))
    | ((with_reducible show eOk _ _ _ _ _ _); first | (exact eok_nil) | (apply ke_rd; exact rfl) | (apply ke_rg; exact rfl; exact rfl) | (apply ke_cv; exact rfl; kernel_rfl) | (apply ke_al; exact rfl; exact rfl))
    | ((with_reducible apply freshIs_new); kernel_rfl)
    | (simp only [B, xB, F, Nat.reduceLT, Nat.reduceLeDiff, Nat.reduceEqDiff, Nat.reduceAdd, Nat.reduceMul, Nat.reduceSub, ↓reduceIte, eq_self, hxo, hxc, go2, gc2, ← h3e, x3]))
  have x2 := o2.1
  have hg3 := (hg2.at.keep o3)
  obtain ⟨h4, h4e⟩ : ∃ h4, h4 = h3.newCells 26 [.nilslice] := ⟨_, rfl⟩
  have o4 : Only h3 h4 [] := by rw [h4e]; exact (Only.refl _ _).new _ _
  have x4 : h4.nx = h3.nx + 1 := by rw [h4e, nx_new]
  have c7 : cellAt h4 h3.nx 0 = some .nilslice := by rw [h4e]; simp only [B, xB, F, Nat.reduceLT, Nat.reduceLeDiff, Nat.reduceEqDiff, Nat.reduceAdd, Nat.reduceMul, Nat.reduceSub, ↓reduceIte, eq_self]
  have w7 : wrAt h4 h3.nx = true := by rw [h4e]; simp only [B, xB, F, Nat.reduceLT, Nat.reduceLeDiff, Nat.reduceEqDiff, Nat.reduceAdd, Nat.reduceMul, Nat.reduceSub, ↓reduceIte, eq_self]
  rw [← h4e]
  have c53 := c5
  have xo4 := o4.1
  first | replace c5 := kcell c5 o4 (by omega) (by simp) | replace c5 := kwr c5 o4 (by omega) (by simp)
  have hg4 : GensP (fun b => b < h3.nx) h4 (.agg [x5]) L := hg3.p.keep0 o4
  repeat' (first
    | ((with_reducible show codeW _ _ _ _ (codeI _ _) _ _ _ _); first | (apply st_seq; exact rfl) | (refine st_reg ?_ rfl rfl ?_; exact rfl; (conv => arg 4; whnf); (conv => arg 3; whnf)) | (refine st_dp ord6_0 ?_ rfl rfl ?_; exact rfl; (conv => arg 4; whnf); (conv => arg 3; whnf)) | (refine st_dp ord6_1 ?_ rfl rfl ?_; exact rfl; (conv => arg 4; whnf); (conv => arg 3; whnf)) | (refine st_dw ?_ rfl rfl ?_ ?_; exact rfl; kernel_rfl; (conv => arg 5; whnf); (conv => arg 3; whnf)) | (refine st_cond ?_ rfl ?_; exact rfl; (conv => arg 1; arg 2; whnf)) | (refine st_block ?_ rfl ?_; exact rfl; (conv => arg 9; arg 1; whnf)) | (apply st_skip; exact rfl) | (refine st_exit ?_ rfl ?_; exact rfl; (conv in exitId _ => whnf)) | (apply st_ret; exact rfl))
    | ((with_reducible refine retW_intro rfl ?_); (conv => arg 2; whnf))
    | ((with_reducible refine ifB_split (fun hb => ?_) (fun hb => ?_)) <;> (try rw [Bool.not_true] at hb) <;> (try rw [Bool.not_false] at hb) <;> (try simp only [hb]))
    | ((with_reducible refine gW_split (fun hb => ?_) (fun hb => ?_)) <;> (try rw [Bool.not_true] at hb) <;> (try rw [Bool.not_false] at hb) <;> (try simp only [hb]))
    | ((with_reducible refine gX_split (fun hb => ?_) (fun hb => ?_)) <;> (try rw [Bool.not_true] at hb) <;> (try rw [Bool.not_false] at hb) <;> (try simp only [hb]))
    | ((with_reducible show drawP _ _ _ _ _ _ _ _ _); first | (apply kP_rd; exact rfl; exact rfl) | (apply kP_rg; exact rfl; exact rfl; exact rfl) | (apply kP_cv; exact rfl; exact rfl; kernel_rfl) | (apply kP_al; exact rfl; exact rfl; exact rfl) | (apply kP_ex; exact rfl; exact rfl; kernel_rfl; exact rfl) | (apply kP_eg; exact rfl; exact rfl; kernel_rfl; exact rfl) | (apply kP_nl))
    | ((with_reducible show drawI _ _ _ _ _ _ _ _ _); first | (apply kI_rd; exact rfl) | (apply kI_rg; exact rfl; exact rfl) | (apply kI_cv; exact rfl; kernel_rfl) | (apply kI_al; exact rfl; exact rfl) | (apply kI_ex; exact rfl; kernel_rfl; exact rfl) | (apply kI_eg; exact rfl; kernel_rfl; exact rfl) | (apply kI_nl))
    | ((with_reducible show eOk _ _ _ _ _ _); first | (exact eok_nil) | (apply ke_rd; exact rfl) | (apply ke_rg; exact rfl; exact rfl) | (apply ke_cv; exact rfl; kernel_rfl) | (apply ke_al; exact rfl; exact rfl))
    | ((with_reducible apply freshIs_new); kernel_rfl)
    | (simp only [B, xB, F, Nat.reduceLT, Nat.reduceLeDiff, Nat.reduceEqDiff, Nat.reduceAdd, Nat.reduceMul, Nat.reduceSub, ↓reduceIte, eq_self, c53, x3]))
  refine ((sinceC h4 _ L 0 hg4.at hz).call P).mono P ?_
  rintro va h5 ⟨o5, gr5⟩
  rw [since_all] at gr5
  have xo5 := o5.1
  first | replace c5 := kcell c5 o5 (by omega) (by simp) | replace c5 := kwr c5 o5 (by omega) (by simp)
  first | replace c7 := kcell c7 o5 (by omega) (by simp) | replace c7 := kwr c7 o5 (by omega) (by simp)
  first | replace w7 := kcell w7 o5 (by omega) (by simp) | replace w7 := kwr w7 o5 (by omega) (by simp)
  have hg5 := hg4.keep0 o5
  have va1 := gr5.one
  have va2 := gr5.cells
  have ec : (List.map (fun x => x.rev) (all L)).length = (all L).length := List.length_map _
  have vl5 := gr5.len (P := P) u29
  rw [ec] at vl5
  have hbase : ∀ b, blkOf va = some b → h4.nx ≤ b := fun b hb => (gr5.base hb).1
  have hsl := gr5.slice
  obtain ⟨A, hA⟩ : ∃ A, A = all L := ⟨_, rfl⟩
  rw [← hA] at hsl vl5 hlen ec
  have hgA : Good A := by rw [hA]; exact hgood
  obtain ⟨b7, hb7⟩ : ∃ b7, b7 = h3.nx := ⟨_, rfl⟩
  rw [← hb7] at c7 w7
  obtain ⟨b5, hb5⟩ : ∃ b5, b5 = h2.nx := ⟨_, rfl⟩
  rw [← hb5] at c5
  have x37 : b5 + 1 = b7 := by omega
  have hbase : ∀ b, blkOf va = some b → b ∉ [b7] := fun b hb => by have := hbase b hb; simp; omega
  have hlt5 : b7 < h5.nx := by omega
  have n57 : (b5 = b7) = False := by simp; omega
  repeat' (first
    | ((with_reducible show codeW _ _ _ _ (codeI _ _) _ _ _ _); first | (apply st_seq; exact rfl) | (refine st_reg ?_ rfl rfl ?_; exact rfl; (conv => arg 4; whnf); (conv => arg 3; whnf)) | (refine st_dp ord6_0 ?_ rfl rfl ?_; exact rfl; (conv => arg 4; whnf); (conv => arg 3; whnf)) | (refine st_dp ord6_1 ?_ rfl rfl ?_; exact rfl; (conv => arg 4; whnf); (conv => arg 3; whnf)) | (refine st_dw ?_ rfl rfl ?_ ?_; exact rfl; kernel_rfl; (conv => arg 5; whnf); (conv => arg 3; whnf)) | (refine st_cond ?_ rfl ?_; exact rfl; (conv => arg 1; arg 2; whnf)) | (refine st_block ?_ rfl ?_; exact rfl; (conv => arg 9; arg 1; whnf)) | (apply st_skip; exact rfl) | (refine st_exit ?_ rfl ?_; exact rfl; (conv in exitId _ => whnf)) | (apply st_ret; exact rfl))
    | ((with_reducible refine retW_intro rfl ?_); (conv => arg 2; whnf))
    | ((with_reducible refine ifB_split (fun hb => ?_) (fun hb => ?_)) <;> (try rw [Bool.not_true] at hb) <;> (try rw [Bool.not_false] at hb) <;> (try simp only [hb]))
    | ((with_reducible refine gW_split (fun hb => ?_) (fun hb => ?_)) <;> (try rw [Bool.not_true] at hb) <;> (try rw [Bool.not_false] at hb) <;> (try simp only [hb]))
    | ((with_reducible refine gX_split (fun hb => ?_) (fun hb => ?_)) <;> (try rw [Bool.not_true] at hb) <;> (try rw [Bool.not_false] at hb) <;> (try simp only [hb]))
    | ((with_reducible show drawP _ _ _ _ _ _ _ _ _); first | (apply kP_rd; exact rfl; exact rfl) | (apply kP_rg; exact rfl; exact rfl; exact rfl) | (apply kP_cv; exact rfl; exact rfl; kernel_rfl) | (apply kP_al; exact rfl; exact rfl; exact rfl) | (apply kP_ex; exact rfl; exact rfl; kernel_rfl; exact rfl) | (apply kP_eg; exact rfl; exact rfl; kernel_rfl; exact rfl) | (apply kP_nl))
    | ((with_reducible show drawI _ _ _ _ _ _ _ _ _); first | (apply kI_rd; exact rfl) | (apply kI_rg; exact rfl; exact rfl) | (apply kI_cv; exact rfl; kernel_rfl) | (apply kI_al; exact rfl; exact rfl) | (apply kI_ex; exact rfl; kernel_rfl; exact rfl) | (apply kI_eg; exact rfl; kernel_rfl; exact rfl) | (apply kI_nl))
    | ((with_reducible show eOk _ _ _ _ _ _); first | (exact eok_nil) | (apply ke_rd; exact rfl) | (apply ke_rg; exact rfl; exact rfl) | (apply ke_cv; exact rfl; kernel_rfl) | (apply ke_al; exact rfl; exact rfl))
    | ((with_reducible apply freshIs_new); kernel_rfl)
    | (simp only [B, xB, F, Nat.reduceLT, Nat.reduceLeDiff, Nat.reduceEqDiff, Nat.reduceAdd, Nat.reduceMul, Nat.reduceSub, ↓reduceIte, eq_self, x37, ← hb5]))
  refine st_loop (fun n ds tm h => ∃ i s7 M, BkI h5 b5 b7 x5 va A n ds tm h i s7 M) A.length rfl
    ⟨0, .nilslice, [], rfl, rfl, Nat.zero_le _, by simp only [B, xB, F, Nat.reduceLT, Nat.reduceLeDiff, Nat.reduceEqDiff, Nat.reduceAdd, Nat.reduceMul, Nat.reduceSub, ↓reduceIte, eq_self], by simp only [B, xB, F, Nat.reduceLT, Nat.reduceLeDiff, Nat.reduceEqDiff, Nat.reduceAdd, Nat.reduceMul, Nat.reduceSub, ↓reduceIte, eq_self, x37], by simp only [B, xB, F, Nat.reduceLT, Nat.reduceLeDiff, Nat.reduceEqDiff, Nat.reduceAdd, Nat.reduceMul, Nat.reduceSub, ↓reduceIte, eq_self], by simp only [B, xB, F, Nat.reduceLT, Nat.reduceLeDiff, Nat.reduceEqDiff, Nat.reduceAdd, Nat.reduceMul, Nat.reduceSub, ↓reduceIte, eq_self], Only.refl _ _, c7, w7, GensP.nil _ _, wf_nil, rfl⟩ (fun n ds tm h hI => ?_)
  obtain ⟨i, s7, M, rfl, rfl, ii, t5, t7, t8, t9, oo, c7, w7, gg, wf, al⟩ := hI
  have c5 := (oo.cell (b := b5) (by omega) (by simp; omega) 0).trans c5
  have hgL : GensAt h (.agg [x5]) L := (hg5.keep oo (fun c hc => by rw [List.mem_singleton] at hc; omega)).at
  have hslh := hsl.only oo hbase
  have x0 := oo.1
  have hMz : Sz 900 M := (wf_sz wf).le (by rw [al, List.length_take]; omega)
  by_cases hi : i < A.length
  · obtain ⟨c, hc⟩ : ∃ c, A[i]? = some c := ⟨_, List.getElem?_eq_getElem hi⟩
    have d1 : decide (i < A.length) = true := decide_eq_true hi
    have lt1 : (i < (List.map (fun x : Ch => x.rev) A).length) = True := by rw [ec]; simp [hi]
    have lt2 : (i < A.length) = True := by simp [hi]
    have w1 : wrapF .i64 (Int.ofNat i + Int.ofNat 1) = Int.ofNat (i + 1) := i64_add (by omega)
    have hcr : (A.map (·.rev))[i]? = some c.rev := by rw [List.getElem?_map, hc]; rfl
    obtain ⟨bl, ol, cap, rfl, hbl, -⟩ := hslh.place (by rw [ec]; omega)
    obtain ⟨p0, p1⟩ := rvC_at hslh hcr
    have gg0 := gg
    have c70 := c7
    have w70 := w7
    have p00 := p0
    have p10 := p1
    have hbk := back_step hgA hc wf al
    have hown := isK_own hgA hc
    have aB : atB L c.rev.1 = !c.tomb := by rw [atB_isK, ← hA, hown]; cases c.tomb <;> rfl
    have aK : atK L c.rev.1 = if c.tomb then ch0 else c := by rw [atK_isK, ← hA, hown]; cases c.tomb <;> rfl
    obtain ⟨k, hk⟩ : ∃ k, k = atK L c.rev.1 := ⟨_, rfl⟩
    have nbl : (bl = h.nx) = False := by simp; omega
    have n5 : (b5 = h.nx) = False := by simp; omega
    repeat' (first
      | ((with_reducible show codeW _ _ _ _ (codeI _ _) _ _ _ _); first | (apply st_seq; exact rfl) | (refine st_reg ?_ rfl rfl ?_; exact rfl; (conv => arg 4; whnf); (conv => arg 3; whnf)) | (refine st_dp ord6_0 ?_ rfl rfl ?_; exact rfl; (conv => arg 4; whnf); (conv => arg 3; whnf)) | (refine st_dp ord6_1 ?_ rfl rfl ?_; exact rfl; (conv => arg 4; whnf); (conv => arg 3; whnf)) | (refine st_dw ?_ rfl rfl ?_ ?_; exact rfl; kernel_rfl; (conv => arg 5; whnf); (conv => arg 3; whnf)) | (refine st_cond ?_ rfl ?_; exact rfl; (conv => arg 1; arg 2; whnf)) | (refine st_block ?_ rfl ?_; exact rfl; (conv => arg 9; arg 1; whnf)) | (apply st_skip; exact rfl) | (refine st_exit ?_ rfl ?_; exact rfl; (conv in exitId _ => whnf)) | (apply st_ret; exact rfl))
      | ((with_reducible refine retW_intro rfl ?_); (conv => arg 2; whnf))
      | ((with_reducible refine ifB_split (fun hb => ?_) (fun hb => ?_)) <;> (try rw [Bool.not_true] at hb) <;> (try rw [Bool.not_false] at hb) <;> (try simp only [hb]))
      | ((with_reducible refine gW_split (fun hb => ?_) (fun hb => ?_)) <;> (try rw [Bool.not_true] at hb) <;> (try rw [Bool.not_false] at hb) <;> (try simp only [hb]))
      | ((with_reducible refine gX_split (fun hb => ?_) (fun hb => ?_)) <;> (try rw [Bool.not_true] at hb) <;> (try rw [Bool.not_false] at hb) <;> (try simp only [hb]))
      | ((with_reducible show drawP _ _ _ _ _ _ _ _ _); first | (apply kP_rd; exact rfl; exact rfl) | (apply kP_rg; exact rfl; exact rfl; exact rfl) | (apply kP_cv; exact rfl; exact rfl; kernel_rfl) | (apply kP_al; exact rfl; exact rfl; exact rfl) | (apply kP_ex; exact rfl; exact rfl; kernel_rfl; exact rfl) | (apply kP_eg; exact rfl; exact rfl; kernel_rfl; exact rfl) | (apply kP_nl))
      | ((with_reducible show drawI _ _ _ _ _ _ _ _ _); first | (apply kI_rd; exact rfl) | (apply kI_rg; exact rfl; exact rfl) | (apply kI_cv; exact rfl; kernel_rfl) | (apply kI_al; exact rfl; exact rfl) | (apply kI_ex; exact rfl; kernel_rfl; exact rfl) | (apply kI_eg; exact rfl; kernel_rfl; exact rfl) | (apply kI_nl))
      | ((with_reducible show eOk _ _ _ _ _ _); first | (exact eok_nil) | (apply ke_rd; exact rfl) | (apply ke_rg; exact rfl; exact rfl) | (apply ke_cv; exact rfl; kernel_rfl) | (apply ke_al; exact rfl; exact rfl))
      | ((with_reducible apply freshIs_new); kernel_rfl)
      | (simp only [B, xB, F, Nat.reduceLT, Nat.reduceLeDiff, Nat.reduceEqDiff, Nat.reduceAdd, Nat.reduceMul, Nat.reduceSub, ↓reduceIte, eq_self, t5, t7, t8, t9, vl5, d1, lt1, p0, c5, nbl, n5]))
    obtain ⟨hU, hUe⟩ : ∃ hU, hU = h.newCells 35 [.int .u64 (.ofNat 0), .int .u64 (.ofNat 0)] := ⟨_, rfl⟩
    have oU : Only h hU [] := by rw [hUe]; exact (Only.refl _ _).new _ _
    have xU : hU.nx = h.nx + 1 := by rw [hUe, nx_new]
    rw [← hUe]
    have xoU := oU.1
    first | replace c5 := kcell c5 oU (by omega) (by simp) | replace c5 := kwr c5 oU (by omega) (by simp)
    first | replace c7 := kcell c7 oU (by omega) (by simp) | replace c7 := kwr c7 oU (by omega) (by simp)
    first | replace w7 := kcell w7 oU (by omega) (by simp) | replace w7 := kwr w7 oU (by omega) (by simp)
    first | replace p0 := kcell p0 oU (by omega) (by simp) | replace p0 := kwr p0 oU (by omega) (by simp)
    first | replace p1 := kcell p1 oU (by omega) (by simp) | replace p1 := kwr p1 oU (by omega) (by simp)
    replace hgL := hgL.keep oU
    have gg := gg.keep0 oU
    have e0 : cellAt hU h.nx 0 = some (.int .u64 (.ofNat 0)) := by rw [hUe]; simp only [B, xB, F, Nat.reduceLT, Nat.reduceLeDiff, Nat.reduceEqDiff, Nat.reduceAdd, Nat.reduceMul, Nat.reduceSub, ↓reduceIte, eq_self]
    have e1 : cellAt hU h.nx 1 = some (.int .u64 (.ofNat 0)) := by rw [hUe]; simp only [B, xB, F, Nat.reduceLT, Nat.reduceLeDiff, Nat.reduceEqDiff, Nat.reduceAdd, Nat.reduceMul, Nat.reduceSub, ↓reduceIte, eq_self]
    have ew : wrAt hU h.nx = true := by rw [hUe]; simp only [B, xB, F, Nat.reduceLT, Nat.reduceLeDiff, Nat.reduceEqDiff, Nat.reduceAdd, Nat.reduceMul, Nat.reduceSub, ↓reduceIte, eq_self]
    refine ((atC hU _ L c.rev.1 hgL hz).call P).mono P ?_
    rintro v hV ⟨rfl, oV⟩
    rw [← hk, aB]
    have ek : rvA k.rev = .agg [.int .u64 (.ofNat k.rev.1), .int .u64 (.ofNat k.rev.2)] := rfl
    rw [ek]
    unfold n64
    have GV : hV.t.get h.nx = (h.newCells 35 [.int .u64 (.ofNat 0), .int .u64 (.ofNat 0)]).t.get h.nx := by rw [oV.2 _ (by omega) (by simp), hUe]
    have xoV := oV.1
    first | replace c5 := kcell c5 oV (by omega) (by simp) | replace c5 := kwr c5 oV (by omega) (by simp)
    first | replace c7 := kcell c7 oV (by omega) (by simp) | replace c7 := kwr c7 oV (by omega) (by simp)
    first | replace w7 := kcell w7 oV (by omega) (by simp) | replace w7 := kwr w7 oV (by omega) (by simp)
    first | replace p0 := kcell p0 oV (by omega) (by simp) | replace p0 := kwr p0 oV (by omega) (by simp)
    first | replace p1 := kcell p1 oV (by omega) (by simp) | replace p1 := kwr p1 oV (by omega) (by simp)
    first | replace e0 := kcell e0 oV (by omega) (by simp) | replace e0 := kwr e0 oV (by omega) (by simp)
    first | replace e1 := kcell e1 oV (by omega) (by simp) | replace e1 := kwr e1 oV (by omega) (by simp)
    first | replace ew := kcell ew oV (by omega) (by simp) | replace ew := kwr ew oV (by omega) (by simp)
    replace hgL := hgL.keep oV
    have gg := gg.keep0 oV
    obtain ⟨hW, hWe⟩ : ∃ hW, hW = hV.sts h.nx 0 [.int .u64 (.ofNat k.rev.1), .int .u64 (.ofNat k.rev.2)] := ⟨_, rfl⟩
    have oW : Only hV hW [h.nx] := by rw [hWe]; exact (Only.refl _ _).sts (.inl (by simp))
    have oW0 : Only h hW [] := by rw [hWe]; exact (oU.t oV).sts (.inr (Nat.le_refl _))
    have xW : hW.nx = hV.nx := by rw [hWe, nx_sts]
    have r0 : cellAt hW h.nx 0 = some (.int .u64 (.ofNat k.rev.1)) := by rw [hWe]; simp only [B, xB, F, Nat.reduceLT, Nat.reduceLeDiff, Nat.reduceEqDiff, Nat.reduceAdd, Nat.reduceMul, Nat.reduceSub, ↓reduceIte, eq_self, cellAt_sts ew]
    have r1 : cellAt hW h.nx 1 = some (.int .u64 (.ofNat k.rev.2)) := by rw [hWe]; simp only [B, xB, F, Nat.reduceLT, Nat.reduceLeDiff, Nat.reduceEqDiff, Nat.reduceAdd, Nat.reduceMul, Nat.reduceSub, ↓reduceIte, eq_self, cellAt_sts ew]
    have ggW : GensP (fun b => b ≠ b7) hW (.agg [s7]) M := gg0.keep0 oW0
    have c7W := kcell c70 oW0 (by omega) (by simp)
    have w7W := kwr w70 oW0 (by omega) (by simp)
    have p0W := kcell p00 oW0 (by omega) (by simp)
    have p1W := kcell p10 oW0 (by omega) (by simp)
    have fin : ∀ (hX : H) (y : AV) (M' : List Gn), Only hW hX [] → GensP (fun b => b ≠ b7) hX (.agg [y]) M' → Only h5 (hX.sts b7 0 [y]) [b7] ∧ cellAt (hX.sts b7 0 [y]) b7 0 = some y ∧ wrAt (hX.sts b7 0 [y]) b7 = true ∧ GensP (fun b => b ≠ b7) (hX.sts b7 0 [y]) (.agg [y]) M' := fun hX y M' oX gX => by
      have wX := kwr w7W oX (by omega) (by simp)
      refine ⟨((oo.trans oW0 (fun _ h => h) (fun _ h => by cases h)).trans oX (fun _ h => h) (fun _ h => by cases h)).sts (.inl (by simp)), by rw [cellAt_sts wX, if_pos ⟨rfl, Nat.le_refl _, by simp⟩]; rfl, by rw [wrAt_sts]; exact wX, gX.keep (S := [b7]) ((Only.refl _ _).sts (.inl (by simp))) (fun c hc => by rw [List.mem_singleton] at hc; subst hc; simp)⟩
    cases ht : c.tomb with
    | true =>
      repeat' (first
        | ((with_reducible show codeW _ _ _ _ (codeI _ _) _ _ _ _); first | (apply st_seq; exact rfl) | (refine st_reg ?_ rfl rfl ?_; exact rfl; (conv => arg 4; whnf); (conv => arg 3; whnf)) | (refine st_dp ord6_0 ?_ rfl rfl ?_; exact rfl; (conv => arg 4; whnf); (conv => arg 3; whnf)) | (refine st_dp ord6_1 ?_ rfl rfl ?_; exact rfl; (conv => arg 4; whnf); (conv => arg 3; whnf)) | (refine st_dw ?_ rfl rfl ?_ ?_; exact rfl; kernel_rfl; (conv => arg 5; whnf); (conv => arg 3; whnf)) | (refine st_cond ?_ rfl ?_; exact rfl; (conv => arg 1; arg 2; whnf)) | (refine st_block ?_ rfl ?_; exact rfl; (conv => arg 9; arg 1; whnf)) | (apply st_skip; exact rfl) | (refine st_exit ?_ rfl ?_; exact rfl; (conv in exitId _ => whnf)) | (apply st_ret; exact rfl))
        | ((with_reducible refine retW_intro rfl ?_); (conv => arg 2; whnf))
        | ((with_reducible refine ifB_split (fun hb => ?_) (fun hb => ?_)) <;> (try rw [Bool.not_true] at hb) <;> (try rw [Bool.not_false] at hb) <;> (try simp only [hb]))
        | ((with_reducible refine gW_split (fun hb => ?_) (fun hb => ?_)) <;> (try rw [Bool.not_true] at hb) <;> (try rw [Bool.not_false] at hb) <;> (try simp only [hb]))
        | ((with_reducible refine gX_split (fun hb => ?_) (fun hb => ?_)) <;> (try rw [Bool.not_true] at hb) <;> (try rw [Bool.not_false] at hb) <;> (try simp only [hb]))
        | ((with_reducible show drawP _ _ _ _ _ _ _ _ _); first | (apply kP_rd; exact rfl; exact rfl) | (apply kP_rg; exact rfl; exact rfl; exact rfl) | (apply kP_cv; exact rfl; exact rfl; kernel_rfl) | (apply kP_al; exact rfl; exact rfl; exact rfl) | (apply kP_ex; exact rfl; exact rfl; kernel_rfl; exact rfl) | (apply kP_eg; exact rfl; exact rfl; kernel_rfl; exact rfl) | (apply kP_nl))
        | ((with_reducible show drawI _ _ _ _ _ _ _ _ _); first | (apply kI_rd; exact rfl) | (apply kI_rg; exact rfl; exact rfl) | (apply kI_cv; exact rfl; kernel_rfl) | (apply kI_al; exact rfl; exact rfl) | (apply kI_ex; exact rfl; kernel_rfl; exact rfl) | (apply kI_eg; exact rfl; kernel_rfl; exact rfl) | (apply kI_nl))
        | ((with_reducible show eOk _ _ _ _ _ _); first | (exact eok_nil) | (apply ke_rd; exact rfl) | (apply ke_rg; exact rfl; exact rfl) | (apply ke_cv; exact rfl; kernel_rfl) | (apply ke_al; exact rfl; exact rfl))
        | ((with_reducible apply freshIs_new); kernel_rfl)
        | (simp only [B, xB, F, Nat.reduceLT, Nat.reduceLeDiff, Nat.reduceEqDiff, Nat.reduceAdd, Nat.reduceMul, Nat.reduceSub, ↓reduceIte, eq_self, t5, t7, t8, t9, c5, p0, nbl, n5, GV, put_sts, ew, e0, e1, ← hWe, Bool.not_true, c7W, p0W, p1W, lt1]))
      obtain ⟨b1, b2, b3, b4⟩ := hbk.1 ht
      have er : rvA c.rev = .agg [.int .u64 (.ofNat c.rev.1), .int .u64 (.ofNat c.rev.2)] := rfl
      rw [← er]
      refine ((TombC (fun b => b ≠ b7) hW _ M c.rev (fun b hb => by omega) ggW hMz wf.outer).call P).mono P ?_
      rintro v hX ⟨oX, g, rfl, hgX⟩
      rw [b1]
      rw [b2] at hgX
      obtain ⟨y, rfl, hyo, hyc⟩ := hgX.val
      unfold errV
      obtain ⟨f1, f2, f3, f4⟩ := fin hX y _ oX hgX
      have xX := oX.1
      have c7X := kcell c7W oX (by omega) (by simp)
      have w7X := kwr w7W oX (by omega) (by simp)
      have p0X := kcell p0W oX (by omega) (by simp)
      have p1X := kcell p1W oX (by omega) (by simp)
      repeat' (first
        | ((with_reducible show codeW _ _ _ _ (codeI _ _) _ _ _ _); first | (apply st_seq; exact rfl) | (refine st_reg ?_ rfl rfl ?_; exact rfl; (conv => arg 4; whnf); (conv => arg 3; whnf)) | (refine st_dp ord6_0 ?_ rfl rfl ?_; exact rfl; (conv => arg 4; whnf); (conv => arg 3; whnf)) | (refine st_dp ord6_1 ?_ rfl rfl ?_; exact rfl; (conv => arg 4; whnf); (conv => arg 3; whnf)) | (refine st_dw ?_ rfl rfl ?_ ?_; exact rfl; kernel_rfl; (conv => arg 5; whnf); (conv => arg 3; whnf)) | (refine st_cond ?_ rfl ?_; exact rfl; (conv => arg 1; arg 2; whnf)) | (refine st_block ?_ rfl ?_; exact rfl; (conv => arg 9; arg 1; whnf)) | (apply st_skip; exact rfl) | (refine st_exit ?_ rfl ?_; exact rfl; (conv in exitId _ => whnf)) | (apply st_ret; exact rfl))
        | ((with_reducible refine retW_intro rfl ?_); (conv => arg 2; whnf))
        | ((with_reducible refine ifB_split (fun hb => ?_) (fun hb => ?_)) <;> (try rw [Bool.not_true] at hb) <;> (try rw [Bool.not_false] at hb) <;> (try simp only [hb]))
        | ((with_reducible refine gW_split (fun hb => ?_) (fun hb => ?_)) <;> (try rw [Bool.not_true] at hb) <;> (try rw [Bool.not_false] at hb) <;> (try simp only [hb]))
        | ((with_reducible refine gX_split (fun hb => ?_) (fun hb => ?_)) <;> (try rw [Bool.not_true] at hb) <;> (try rw [Bool.not_false] at hb) <;> (try simp only [hb]))
        | ((with_reducible show drawP _ _ _ _ _ _ _ _ _); first | (apply kP_rd; exact rfl; exact rfl) | (apply kP_rg; exact rfl; exact rfl; exact rfl) | (apply kP_cv; exact rfl; exact rfl; kernel_rfl) | (apply kP_al; exact rfl; exact rfl; exact rfl) | (apply kP_ex; exact rfl; exact rfl; kernel_rfl; exact rfl) | (apply kP_eg; exact rfl; exact rfl; kernel_rfl; exact rfl) | (apply kP_nl))
        | ((with_reducible show drawI _ _ _ _ _ _ _ _ _); first | (apply kI_rd; exact rfl) | (apply kI_rg; exact rfl; exact rfl) | (apply kI_cv; exact rfl; kernel_rfl) | (apply kI_al; exact rfl; exact rfl) | (apply kI_ex; exact rfl; kernel_rfl; exact rfl) | (apply kI_eg; exact rfl; kernel_rfl; exact rfl) | (apply kI_nl))
        | ((with_reducible show eOk _ _ _ _ _ _); first | (exact eok_nil) | (apply ke_rd; exact rfl) | (apply ke_rg; exact rfl; exact rfl) | (apply ke_cv; exact rfl; kernel_rfl) | (apply ke_al; exact rfl; exact rfl))
        | ((with_reducible apply freshIs_new); kernel_rfl)
        | (simp only [B, xB, F, Nat.reduceLT, Nat.reduceLeDiff, Nat.reduceEqDiff, Nat.reduceAdd, Nat.reduceMul, Nat.reduceSub, ↓reduceIte, eq_self, t5, t7, t8, t9, hyo, hyc, put_sts, w7X, c7X, p0X, p1X, nbl, w1]))
      exact ⟨A.length - (i + 1), by omega, i + 1, y, _, rfl, rfl, hi, by simp only [B, xB, F, Nat.reduceLT, Nat.reduceLeDiff, Nat.reduceEqDiff, Nat.reduceAdd, Nat.reduceMul, Nat.reduceSub, ↓reduceIte, eq_self, t5], by simp only [B, xB, F, Nat.reduceLT, Nat.reduceLeDiff, Nat.reduceEqDiff, Nat.reduceAdd, Nat.reduceMul, Nat.reduceSub, ↓reduceIte, eq_self, t7], by simp only [B, xB, F, Nat.reduceLT, Nat.reduceLeDiff, Nat.reduceEqDiff, Nat.reduceAdd, Nat.reduceMul, Nat.reduceSub, ↓reduceIte, eq_self, t8], by simp only [B, xB, F, Nat.reduceLT, Nat.reduceLeDiff, Nat.reduceEqDiff, Nat.reduceAdd, Nat.reduceMul, Nat.reduceSub, ↓reduceIte, eq_self], f1, f2, f3, f4, b4, b3⟩
    | false =>
      rw [ht, if_neg (by simp)] at aK
      rw [aK] at hk
      subst hk
      obtain ⟨b1, b2, b3, b4⟩ := hbk.2 ht
      have qm : (decide (k.rev.1 = k.rev.1) && decide (k.rev.2 = k.rev.2)) = true := by simp
      repeat' (first
        | ((with_reducible show codeW _ _ _ _ (codeI _ _) _ _ _ _); first | (apply st_seq; exact rfl) | (refine st_reg ?_ rfl rfl ?_; exact rfl; (conv => arg 4; whnf); (conv => arg 3; whnf)) | (refine st_dp ord6_0 ?_ rfl rfl ?_; exact rfl; (conv => arg 4; whnf); (conv => arg 3; whnf)) | (refine st_dp ord6_1 ?_ rfl rfl ?_; exact rfl; (conv => arg 4; whnf); (conv => arg 3; whnf)) | (refine st_dw ?_ rfl rfl ?_ ?_; exact rfl; kernel_rfl; (conv => arg 5; whnf); (conv => arg 3; whnf)) | (refine st_cond ?_ rfl ?_; exact rfl; (conv => arg 1; arg 2; whnf)) | (refine st_block ?_ rfl ?_; exact rfl; (conv => arg 9; arg 1; whnf)) | (apply st_skip; exact rfl) | (refine st_exit ?_ rfl ?_; exact rfl; (conv in exitId _ => whnf)) | (apply st_ret; exact rfl))
        | ((with_reducible refine retW_intro rfl ?_); (conv => arg 2; whnf))
        | ((with_reducible refine ifB_split (fun hb => ?_) (fun hb => ?_)) <;> (try rw [Bool.not_true] at hb) <;> (try rw [Bool.not_false] at hb) <;> (try simp only [hb]))
        | ((with_reducible refine gW_split (fun hb => ?_) (fun hb => ?_)) <;> (try rw [Bool.not_true] at hb) <;> (try rw [Bool.not_false] at hb) <;> (try simp only [hb]))
        | ((with_reducible refine gX_split (fun hb => ?_) (fun hb => ?_)) <;> (try rw [Bool.not_true] at hb) <;> (try rw [Bool.not_false] at hb) <;> (try simp only [hb]))
        | ((with_reducible show drawP _ _ _ _ _ _ _ _ _); first | (apply kP_rd; exact rfl; exact rfl) | (apply kP_rg; exact rfl; exact rfl; exact rfl) | (apply kP_cv; exact rfl; exact rfl; kernel_rfl) | (apply kP_al; exact rfl; exact rfl; exact rfl) | (apply kP_ex; exact rfl; exact rfl; kernel_rfl; exact rfl) | (apply kP_eg; exact rfl; exact rfl; kernel_rfl; exact rfl) | (apply kP_nl))
        | ((with_reducible show drawI _ _ _ _ _ _ _ _ _); first | (apply kI_rd; exact rfl) | (apply kI_rg; exact rfl; exact rfl) | (apply kI_cv; exact rfl; kernel_rfl) | (apply kI_al; exact rfl; exact rfl) | (apply kI_ex; exact rfl; kernel_rfl; exact rfl) | (apply kI_eg; exact rfl; kernel_rfl; exact rfl) | (apply kI_nl))
        | ((with_reducible show eOk _ _ _ _ _ _); first | (exact eok_nil) | (apply ke_rd; exact rfl) | (apply ke_rg; exact rfl; exact rfl) | (apply ke_cv; exact rfl; kernel_rfl) | (apply ke_al; exact rfl; exact rfl))
        | ((with_reducible apply freshIs_new); kernel_rfl)
        | (simp only [B, xB, F, Nat.reduceLT, Nat.reduceLeDiff, Nat.reduceEqDiff, Nat.reduceAdd, Nat.reduceMul, Nat.reduceSub, ↓reduceIte, eq_self, t5, t7, t8, t9, c5, p0, nbl, n5, GV, put_sts, ew, e0, e1, ← hWe, Bool.not_false, c7W, p0W, p1W, lt1, r0, r1, decide_true, Bool.and_true]))
      have er : rvA k.rev = .agg [.int .u64 (.ofNat k.rev.1), .int .u64 (.ofNat k.rev.2)] := rfl
      rw [← er]
      refine ((RestC (fun b => b ≠ b7) hW _ M k.rev k.made k.nth (fun b hb => by omega) ggW hMz).call P).mono P ?_
      rintro v hX ⟨oX, g, rfl, hgX⟩
      rw [b1]
      rw [b2] at hgX
      obtain ⟨y, rfl, hyo, hyc⟩ := hgX.val
      unfold errV
      obtain ⟨f1, f2, f3, f4⟩ := fin hX y _ oX hgX
      have xX := oX.1
      have c7X := kcell c7W oX (by omega) (by simp)
      have w7X := kwr w7W oX (by omega) (by simp)
      repeat' (first
        | ((with_reducible show codeW _ _ _ _ (codeI _ _) _ _ _ _); first | (apply st_seq; exact rfl) | (refine st_reg ?_ rfl rfl ?_; exact rfl; (conv => arg 4; whnf); (conv => arg 3; whnf)) | (refine st_dp ord6_0 ?_ rfl rfl ?_; exact rfl; (conv => arg 4; whnf); (conv => arg 3; whnf)) | (refine st_dp ord6_1 ?_ rfl rfl ?_; exact rfl; (conv => arg 4; whnf); (conv => arg 3; whnf)) | (refine st_dw ?_ rfl rfl ?_ ?_; exact rfl; kernel_rfl; (conv => arg 5; whnf); (conv => arg 3; whnf)) | (refine st_cond ?_ rfl ?_; exact rfl; (conv => arg 1; arg 2; whnf)) | (refine st_block ?_ rfl ?_; exact rfl; (conv => arg 9; arg 1; whnf)) | (apply st_skip; exact rfl) | (refine st_exit ?_ rfl ?_; exact rfl; (conv in exitId _ => whnf)) | (apply st_ret; exact rfl))
        | ((with_reducible refine retW_intro rfl ?_); (conv => arg 2; whnf))
        | ((with_reducible refine ifB_split (fun hb => ?_) (fun hb => ?_)) <;> (try rw [Bool.not_true] at hb) <;> (try rw [Bool.not_false] at hb) <;> (try simp only [hb]))
        | ((with_reducible refine gW_split (fun hb => ?_) (fun hb => ?_)) <;> (try rw [Bool.not_true] at hb) <;> (try rw [Bool.not_false] at hb) <;> (try simp only [hb]))
        | ((with_reducible refine gX_split (fun hb => ?_) (fun hb => ?_)) <;> (try rw [Bool.not_true] at hb) <;> (try rw [Bool.not_false] at hb) <;> (try simp only [hb]))
        | ((with_reducible show drawP _ _ _ _ _ _ _ _ _); first | (apply kP_rd; exact rfl; exact rfl) | (apply kP_rg; exact rfl; exact rfl; exact rfl) | (apply kP_cv; exact rfl; exact rfl; kernel_rfl) | (apply kP_al; exact rfl; exact rfl; exact rfl) | (apply kP_ex; exact rfl; exact rfl; kernel_rfl; exact rfl) | (apply kP_eg; exact rfl; exact rfl; kernel_rfl; exact rfl) | (apply kP_nl))
        | ((with_reducible show drawI _ _ _ _ _ _ _ _ _); first | (apply kI_rd; exact rfl) | (apply kI_rg; exact rfl; exact rfl) | (apply kI_cv; exact rfl; kernel_rfl) | (apply kI_al; exact rfl; exact rfl) | (apply kI_ex; exact rfl; kernel_rfl; exact rfl) | (apply kI_eg; exact rfl; kernel_rfl; exact rfl) | (apply kI_nl))
        | ((with_reducible show eOk _ _ _ _ _ _); first | (exact eok_nil) | (apply ke_rd; exact rfl) | (apply ke_rg; exact rfl; exact rfl) | (apply ke_cv; exact rfl; kernel_rfl) | (apply ke_al; exact rfl; exact rfl))
        | ((with_reducible apply freshIs_new); kernel_rfl)
        | (simp only [B, xB, F, Nat.reduceLT, Nat.reduceLeDiff, Nat.reduceEqDiff, Nat.reduceAdd, Nat.reduceMul, Nat.reduceSub, ↓reduceIte, eq_self, t5, t7, t8, t9, hyo, hyc, put_sts, w7X, c7X, w1]))
      exact ⟨A.length - (i + 1), by omega, i + 1, y, _, rfl, rfl, hi, by simp only [B, xB, F, Nat.reduceLT, Nat.reduceLeDiff, Nat.reduceEqDiff, Nat.reduceAdd, Nat.reduceMul, Nat.reduceSub, ↓reduceIte, eq_self, t5], by simp only [B, xB, F, Nat.reduceLT, Nat.reduceLeDiff, Nat.reduceEqDiff, Nat.reduceAdd, Nat.reduceMul, Nat.reduceSub, ↓reduceIte, eq_self, t7], by simp only [B, xB, F, Nat.reduceLT, Nat.reduceLeDiff, Nat.reduceEqDiff, Nat.reduceAdd, Nat.reduceMul, Nat.reduceSub, ↓reduceIte, eq_self, t8], by simp only [B, xB, F, Nat.reduceLT, Nat.reduceLeDiff, Nat.reduceEqDiff, Nat.reduceAdd, Nat.reduceMul, Nat.reduceSub, ↓reduceIte, eq_self], f1, f2, f3, f4, b4, b3⟩
  · have d1 : decide (i < A.length) = false := decide_eq_false hi
    have hiA : i = A.length := by omega
    rw [hiA, List.take_length] at al
    have hMz1 : Sz 1000 M := hMz.le (by omega)
    have gga := gg.at
    repeat' (first
      | ((with_reducible show codeW _ _ _ _ (codeI _ _) _ _ _ _); first | (apply st_seq; exact rfl) | (refine st_reg ?_ rfl rfl ?_; exact rfl; (conv => arg 4; whnf); (conv => arg 3; whnf)) | (refine st_dp ord6_0 ?_ rfl rfl ?_; exact rfl; (conv => arg 4; whnf); (conv => arg 3; whnf)) | (refine st_dp ord6_1 ?_ rfl rfl ?_; exact rfl; (conv => arg 4; whnf); (conv => arg 3; whnf)) | (refine st_dw ?_ rfl rfl ?_ ?_; exact rfl; kernel_rfl; (conv => arg 5; whnf); (conv => arg 3; whnf)) | (refine st_cond ?_ rfl ?_; exact rfl; (conv => arg 1; arg 2; whnf)) | (refine st_block ?_ rfl ?_; exact rfl; (conv => arg 9; arg 1; whnf)) | (apply st_skip; exact rfl) | (refine st_exit ?_ rfl ?_; exact rfl; (conv in exitId _ => whnf)) | (apply st_ret; exact rfl))
      | ((with_reducible refine retW_intro rfl ?_); (conv => arg 2; whnf))
      | ((with_reducible refine ifB_split (fun hb => ?_) (fun hb => ?_)) <;> (try rw [Bool.not_true] at hb) <;> (try rw [Bool.not_false] at hb) <;> (try simp only [hb]))
      | ((with_reducible refine gW_split (fun hb => ?_) (fun hb => ?_)) <;> (try rw [Bool.not_true] at hb) <;> (try rw [Bool.not_false] at hb) <;> (try simp only [hb]))
      | ((with_reducible refine gX_split (fun hb => ?_) (fun hb => ?_)) <;> (try rw [Bool.not_true] at hb) <;> (try rw [Bool.not_false] at hb) <;> (try simp only [hb]))
      | ((with_reducible show drawP _ _ _ _ _ _ _ _ _); first | (apply kP_rd; exact rfl; exact rfl) | (apply kP_rg; exact rfl; exact rfl; exact rfl) | (apply kP_cv; exact rfl; exact rfl; kernel_rfl) | (apply kP_al; exact rfl; exact rfl; exact rfl) | (apply kP_ex; exact rfl; exact rfl; kernel_rfl; exact rfl) | (apply kP_eg; exact rfl; exact rfl; kernel_rfl; exact rfl) | (apply kP_nl))
      | ((with_reducible show drawI _ _ _ _ _ _ _ _ _); first | (apply kI_rd; exact rfl) | (apply kI_rg; exact rfl; exact rfl) | (apply kI_cv; exact rfl; kernel_rfl) | (apply kI_al; exact rfl; exact rfl) | (apply kI_ex; exact rfl; kernel_rfl; exact rfl) | (apply kI_eg; exact rfl; kernel_rfl; exact rfl) | (apply kI_nl))
      | ((with_reducible show eOk _ _ _ _ _ _); first | (exact eok_nil) | (apply ke_rd; exact rfl) | (apply ke_rg; exact rfl; exact rfl) | (apply ke_cv; exact rfl; kernel_rfl) | (apply ke_al; exact rfl; exact rfl))
      | ((with_reducible apply freshIs_new); kernel_rfl)
      | (simp only [B, xB, F, Nat.reduceLT, Nat.reduceLeDiff, Nat.reduceEqDiff, Nat.reduceAdd, Nat.reduceMul, Nat.reduceSub, ↓reduceIte, eq_self, t5, t7, t8, t9, vl5, d1, c7]))
    refine ((sinceC h _ M 0 gga hMz1).call P).mono P ?_
    rintro q1 hB ⟨oB, gq⟩
    rw [since_all, al] at gq
    have xoB := oB.1
    first | replace c5 := kcell c5 oB (by omega) (by simp) | replace c5 := kwr c5 oB (by omega) (by simp)
    first | replace c7 := kcell c7 oB (by omega) (by simp) | replace c7 := kwr c7 oB (by omega) (by simp)
    replace hgL := hgL.keep oB
    replace gga := gga.keep oB
    repeat' (first
      | ((with_reducible show codeW _ _ _ _ (codeI _ _) _ _ _ _); first | (apply st_seq; exact rfl) | (refine st_reg ?_ rfl rfl ?_; exact rfl; (conv => arg 4; whnf); (conv => arg 3; whnf)) | (refine st_dp ord6_0 ?_ rfl rfl ?_; exact rfl; (conv => arg 4; whnf); (conv => arg 3; whnf)) | (refine st_dp ord6_1 ?_ rfl rfl ?_; exact rfl; (conv => arg 4; whnf); (conv => arg 3; whnf)) | (refine st_dw ?_ rfl rfl ?_ ?_; exact rfl; kernel_rfl; (conv => arg 5; whnf); (conv => arg 3; whnf)) | (refine st_cond ?_ rfl ?_; exact rfl; (conv => arg 1; arg 2; whnf)) | (refine st_block ?_ rfl ?_; exact rfl; (conv => arg 9; arg 1; whnf)) | (apply st_skip; exact rfl) | (refine st_exit ?_ rfl ?_; exact rfl; (conv in exitId _ => whnf)) | (apply st_ret; exact rfl))
      | ((with_reducible refine retW_intro rfl ?_); (conv => arg 2; whnf))
      | ((with_reducible refine ifB_split (fun hb => ?_) (fun hb => ?_)) <;> (try rw [Bool.not_true] at hb) <;> (try rw [Bool.not_false] at hb) <;> (try simp only [hb]))
      | ((with_reducible refine gW_split (fun hb => ?_) (fun hb => ?_)) <;> (try rw [Bool.not_true] at hb) <;> (try rw [Bool.not_false] at hb) <;> (try simp only [hb]))
      | ((with_reducible refine gX_split (fun hb => ?_) (fun hb => ?_)) <;> (try rw [Bool.not_true] at hb) <;> (try rw [Bool.not_false] at hb) <;> (try simp only [hb]))
      | ((with_reducible show drawP _ _ _ _ _ _ _ _ _); first | (apply kP_rd; exact rfl; exact rfl) | (apply kP_rg; exact rfl; exact rfl; exact rfl) | (apply kP_cv; exact rfl; exact rfl; kernel_rfl) | (apply kP_al; exact rfl; exact rfl; exact rfl) | (apply kP_ex; exact rfl; exact rfl; kernel_rfl; exact rfl) | (apply kP_eg; exact rfl; exact rfl; kernel_rfl; exact rfl) | (apply kP_nl))
      | ((with_reducible show drawI _ _ _ _ _ _ _ _ _); first | (apply kI_rd; exact rfl) | (apply kI_rg; exact rfl; exact rfl) | (apply kI_cv; exact rfl; kernel_rfl) | (apply kI_al; exact rfl; exact rfl) | (apply kI_ex; exact rfl; kernel_rfl; exact rfl) | (apply kI_eg; exact rfl; kernel_rfl; exact rfl) | (apply kI_nl))
      | ((with_reducible show eOk _ _ _ _ _ _); first | (exact eok_nil) | (apply ke_rd; exact rfl) | (apply ke_rg; exact rfl; exact rfl) | (apply ke_cv; exact rfl; kernel_rfl) | (apply ke_al; exact rfl; exact rfl))
      | ((with_reducible apply freshIs_new); kernel_rfl)
      | (simp only [B, xB, F, Nat.reduceLT, Nat.reduceLeDiff, Nat.reduceEqDiff, Nat.reduceAdd, Nat.reduceMul, Nat.reduceSub, ↓reduceIte, eq_self, t5, t7, t8, t9, c5, c7]))
    refine ((revsC hB q1 va _ _ gq.slice (hslh.only oB (fun _ _ => by simp)) (by rw [ec]; omega)).call P).mono P ?_
    rintro v hC ⟨rfl, oC⟩
    rw [decide_eq_true rfl]
    have xoC := oC.1
    first | replace c5 := kcell c5 oC (by omega) (by simp) | replace c5 := kwr c5 oC (by omega) (by simp)
    first | replace c7 := kcell c7 oC (by omega) (by simp) | replace c7 := kwr c7 oC (by omega) (by simp)
    replace hgL := hgL.keep oC
    replace gga := gga.keep oC
    repeat' (first
      | ((with_reducible show codeW _ _ _ _ (codeI _ _) _ _ _ _); first | (apply st_seq; exact rfl) | (refine st_reg ?_ rfl rfl ?_; exact rfl; (conv => arg 4; whnf); (conv => arg 3; whnf)) | (refine st_dp ord6_0 ?_ rfl rfl ?_; exact rfl; (conv => arg 4; whnf); (conv => arg 3; whnf)) | (refine st_dp ord6_1 ?_ rfl rfl ?_; exact rfl; (conv => arg 4; whnf); (conv => arg 3; whnf)) | (refine st_dw ?_ rfl rfl ?_ ?_; exact rfl; kernel_rfl; (conv => arg 5; whnf); (conv => arg 3; whnf)) | (refine st_cond ?_ rfl ?_; exact rfl; (conv => arg 1; arg 2; whnf)) | (refine st_block ?_ rfl ?_; exact rfl; (conv => arg 9; arg 1; whnf)) | (apply st_skip; exact rfl) | (refine st_exit ?_ rfl ?_; exact rfl; (conv in exitId _ => whnf)) | (apply st_ret; exact rfl))
      | ((with_reducible refine retW_intro rfl ?_); (conv => arg 2; whnf))
      | ((with_reducible refine ifB_split (fun hb => ?_) (fun hb => ?_)) <;> (try rw [Bool.not_true] at hb) <;> (try rw [Bool.not_false] at hb) <;> (try simp only [hb]))
      | ((with_reducible refine gW_split (fun hb => ?_) (fun hb => ?_)) <;> (try rw [Bool.not_true] at hb) <;> (try rw [Bool.not_false] at hb) <;> (try simp only [hb]))
      | ((with_reducible refine gX_split (fun hb => ?_) (fun hb => ?_)) <;> (try rw [Bool.not_true] at hb) <;> (try rw [Bool.not_false] at hb) <;> (try simp only [hb]))
      | ((with_reducible show drawP _ _ _ _ _ _ _ _ _); first | (apply kP_rd; exact rfl; exact rfl) | (apply kP_rg; exact rfl; exact rfl; exact rfl) | (apply kP_cv; exact rfl; exact rfl; kernel_rfl) | (apply kP_al; exact rfl; exact rfl; exact rfl) | (apply kP_ex; exact rfl; exact rfl; kernel_rfl; exact rfl) | (apply kP_eg; exact rfl; exact rfl; kernel_rfl; exact rfl) | (apply kP_nl))
      | ((with_reducible show drawI _ _ _ _ _ _ _ _ _); first | (apply kI_rd; exact rfl) | (apply kI_rg; exact rfl; exact rfl) | (apply kI_cv; exact rfl; kernel_rfl) | (apply kI_al; exact rfl; exact rfl) | (apply kI_ex; exact rfl; kernel_rfl; exact rfl) | (apply kI_eg; exact rfl; kernel_rfl; exact rfl) | (apply kI_nl))
      | ((with_reducible show eOk _ _ _ _ _ _); first | (exact eok_nil) | (apply ke_rd; exact rfl) | (apply ke_rg; exact rfl; exact rfl) | (apply ke_cv; exact rfl; kernel_rfl) | (apply ke_al; exact rfl; exact rfl))
      | ((with_reducible apply freshIs_new); kernel_rfl)
      | (simp only [B, xB, F, Nat.reduceLT, Nat.reduceLeDiff, Nat.reduceEqDiff, Nat.reduceAdd, Nat.reduceMul, Nat.reduceSub, ↓reduceIte, eq_self, t5, t7, t8, t9, c5, c7, Bool.not_true]))
    refine ((emptyC hC _ M gga hMz1).call P).mono P ?_
    rintro v hD ⟨rfl, oD⟩
    have xoD := oD.1
    first | replace c5 := kcell c5 oD (by omega) (by simp) | replace c5 := kwr c5 oD (by omega) (by simp)
    first | replace c7 := kcell c7 oD (by omega) (by simp) | replace c7 := kwr c7 oD (by omega) (by simp)
    replace hgL := hgL.keep oD
    replace gga := gga.keep oD
    repeat' (first
      | ((with_reducible show codeW _ _ _ _ (codeI _ _) _ _ _ _); first | (apply st_seq; exact rfl) | (refine st_reg ?_ rfl rfl ?_; exact rfl; (conv => arg 4; whnf); (conv => arg 3; whnf)) | (refine st_dp ord6_0 ?_ rfl rfl ?_; exact rfl; (conv => arg 4; whnf); (conv => arg 3; whnf)) | (refine st_dp ord6_1 ?_ rfl rfl ?_; exact rfl; (conv => arg 4; whnf); (conv => arg 3; whnf)) | (refine st_dw ?_ rfl rfl ?_ ?_; exact rfl; kernel_rfl; (conv => arg 5; whnf); (conv => arg 3; whnf)) | (refine st_cond ?_ rfl ?_; exact rfl; (conv => arg 1; arg 2; whnf)) | (refine st_block ?_ rfl ?_; exact rfl; (conv => arg 9; arg 1; whnf)) | (apply st_skip; exact rfl) | (refine st_exit ?_ rfl ?_; exact rfl; (conv in exitId _ => whnf)) | (apply st_ret; exact rfl))
      | ((with_reducible refine retW_intro rfl ?_); (conv => arg 2; whnf))
      | ((with_reducible refine ifB_split (fun hb => ?_) (fun hb => ?_)) <;> (try rw [Bool.not_true] at hb) <;> (try rw [Bool.not_false] at hb) <;> (try simp only [hb]))
      | ((with_reducible refine gW_split (fun hb => ?_) (fun hb => ?_)) <;> (try rw [Bool.not_true] at hb) <;> (try rw [Bool.not_false] at hb) <;> (try simp only [hb]))
      | ((with_reducible refine gX_split (fun hb => ?_) (fun hb => ?_)) <;> (try rw [Bool.not_true] at hb) <;> (try rw [Bool.not_false] at hb) <;> (try simp only [hb]))
      | ((with_reducible show drawP _ _ _ _ _ _ _ _ _); first | (apply kP_rd; exact rfl; exact rfl) | (apply kP_rg; exact rfl; exact rfl; exact rfl) | (apply kP_cv; exact rfl; exact rfl; kernel_rfl) | (apply kP_al; exact rfl; exact rfl; exact rfl) | (apply kP_ex; exact rfl; exact rfl; kernel_rfl; exact rfl) | (apply kP_eg; exact rfl; exact rfl; kernel_rfl; exact rfl) | (apply kP_nl))
      | ((with_reducible show drawI _ _ _ _ _ _ _ _ _); first | (apply kI_rd; exact rfl) | (apply kI_rg; exact rfl; exact rfl) | (apply kI_cv; exact rfl; kernel_rfl) | (apply kI_al; exact rfl; exact rfl) | (apply kI_ex; exact rfl; kernel_rfl; exact rfl) | (apply kI_eg; exact rfl; kernel_rfl; exact rfl) | (apply kI_nl))
      | ((with_reducible show eOk _ _ _ _ _ _); first | (exact eok_nil) | (apply ke_rd; exact rfl) | (apply ke_rg; exact rfl; exact rfl) | (apply ke_cv; exact rfl; kernel_rfl) | (apply ke_al; exact rfl; exact rfl))
      | ((with_reducible apply freshIs_new); kernel_rfl)
      | (simp only [B, xB, F, Nat.reduceLT, Nat.reduceLeDiff, Nat.reduceEqDiff, Nat.reduceAdd, Nat.reduceMul, Nat.reduceSub, ↓reduceIte, eq_self, t5, t7, t8, t9, c5, c7, Bool.not_true]))
    refine ((emptyC hD _ L hgL hz).call P).mono P ?_
    rintro v hE ⟨rfl, oE⟩
    have hem : (M.isEmpty == L.isEmpty) = true := by rw [empty_all wf, empty_all hwf, al, hA]; simp
    have xoE := oE.1
    first | replace c5 := kcell c5 oE (by omega) (by simp) | replace c5 := kwr c5 oE (by omega) (by simp)
    first | replace c7 := kcell c7 oE (by omega) (by simp) | replace c7 := kwr c7 oE (by omega) (by simp)
    replace hgL := hgL.keep oE
    replace gga := gga.keep oE
    repeat' (first
      | ((with_reducible show codeW _ _ _ _ (codeI _ _) _ _ _ _); first | (apply st_seq; exact rfl) | (refine st_reg ?_ rfl rfl ?_; exact rfl; (conv => arg 4; whnf); (conv => arg 3; whnf)) | (refine st_dp ord6_0 ?_ rfl rfl ?_; exact rfl; (conv => arg 4; whnf); (conv => arg 3; whnf)) | (refine st_dp ord6_1 ?_ rfl rfl ?_; exact rfl; (conv => arg 4; whnf); (conv => arg 3; whnf)) | (refine st_dw ?_ rfl rfl ?_ ?_; exact rfl; kernel_rfl; (conv => arg 5; whnf); (conv => arg 3; whnf)) | (refine st_cond ?_ rfl ?_; exact rfl; (conv => arg 1; arg 2; whnf)) | (refine st_block ?_ rfl ?_; exact rfl; (conv => arg 9; arg 1; whnf)) | (apply st_skip; exact rfl) | (refine st_exit ?_ rfl ?_; exact rfl; (conv in exitId _ => whnf)) | (apply st_ret; exact rfl))
      | ((with_reducible refine retW_intro rfl ?_); (conv => arg 2; whnf))
      | ((with_reducible refine ifB_split (fun hb => ?_) (fun hb => ?_)) <;> (try rw [Bool.not_true] at hb) <;> (try rw [Bool.not_false] at hb) <;> (try simp only [hb]))
      | ((with_reducible refine gW_split (fun hb => ?_) (fun hb => ?_)) <;> (try rw [Bool.not_true] at hb) <;> (try rw [Bool.not_false] at hb) <;> (try simp only [hb]))
      | ((with_reducible refine gX_split (fun hb => ?_) (fun hb => ?_)) <;> (try rw [Bool.not_true] at hb) <;> (try rw [Bool.not_false] at hb) <;> (try simp only [hb]))
      | ((with_reducible show drawP _ _ _ _ _ _ _ _ _); first | (apply kP_rd; exact rfl; exact rfl) | (apply kP_rg; exact rfl; exact rfl; exact rfl) | (apply kP_cv; exact rfl; exact rfl; kernel_rfl) | (apply kP_al; exact rfl; exact rfl; exact rfl) | (apply kP_ex; exact rfl; exact rfl; kernel_rfl; exact rfl) | (apply kP_eg; exact rfl; exact rfl; kernel_rfl; exact rfl) | (apply kP_nl))
      | ((with_reducible show drawI _ _ _ _ _ _ _ _ _); first | (apply kI_rd; exact rfl) | (apply kI_rg; exact rfl; exact rfl) | (apply kI_cv; exact rfl; kernel_rfl) | (apply kI_al; exact rfl; exact rfl) | (apply kI_ex; exact rfl; kernel_rfl; exact rfl) | (apply kI_eg; exact rfl; kernel_rfl; exact rfl) | (apply kI_nl))
      | ((with_reducible show eOk _ _ _ _ _ _); first | (exact eok_nil) | (apply ke_rd; exact rfl) | (apply ke_rg; exact rfl; exact rfl) | (apply ke_cv; exact rfl; kernel_rfl) | (apply ke_al; exact rfl; exact rfl))
      | ((with_reducible apply freshIs_new); kernel_rfl)
      | (simp only [B, xB, F, Nat.reduceLT, Nat.reduceLeDiff, Nat.reduceEqDiff, Nat.reduceAdd, Nat.reduceMul, Nat.reduceSub, ↓reduceIte, eq_self, t5, t7, t8, t9, c5, c7, hem, Bool.not_true]))
    exact backL hE _ b5 b7 x5 s7 L M (by simp only [B, xB, F, Nat.reduceLT, Nat.reduceLeDiff, Nat.reduceEqDiff, Nat.reduceAdd, Nat.reduceMul, Nat.reduceSub, ↓reduceIte, eq_self, t5]) (by simp only [B, xB, F, Nat.reduceLT, Nat.reduceLeDiff, Nat.reduceEqDiff, Nat.reduceAdd, Nat.reduceMul, Nat.reduceSub, ↓reduceIte, eq_self, t7]) (by simp only [B, xB, F, Nat.reduceLT, Nat.reduceLeDiff, Nat.reduceEqDiff, Nat.reduceAdd, Nat.reduceMul, Nat.reduceSub, ↓reduceIte, eq_self]) (by omega) (by omega) c5 c7 hgL gga hz hMz1 (by rw [al, hA]) hgood.nth
end
end Go.Proofs.Ytlkngpckibidlaa.W

namespace Go.Proofs.Ytlkngpckibidlaa.gensBack
open Go.ChangeShapes Go.WideShapes Go.ChangeAt Go.RowKit
theorem own : ownKnob Try.prog.godebug = none := by kernel_rfl
theorem laidOut : laidOutB Try.prog = true := by kernel_rfl
theorem readable : ∀ t, t ∈ [22, 5] → Try.prog.readableRec t = true ∧ t < Try.prog.types.size := by
  intro t ht
  simp only [List.mem_cons, List.mem_nil_iff, or_false] at ht
  rcases ht with rfl | rfl <;> exact ⟨by kernel_rfl, of_decide_eq_true (by kernel_rfl)⟩
set_option maxRecDepth 100000 in
theorem walk (M : World) (a : Nat) (vl : AX.AV) (l : List Nat) (cv : Value) (ha : a < 256) (hv : AX.VR (AX.absPhi M.heap.size) vl cv) (sl : AX.SliceAt (AX.absH M) vl l.length (W.u8s l)) (hl : ∀ n, n ∈ l → n < 256) :
    Calls Try.prog 6 #[cv, .int .u8 (.ofNat a)] M fun e w' => e = .returned (.bool true) ∧ Below M.heap.size M w' := by
  have hw := W.backW (AX.absH M) vl l a ha sl hl
  refine (AX.calls_of_codeW (fn := Try.f6) (c := AX.bodyC Try.f6) Try.func6 rfl hw (AX.absH_rel M) (Nat.le_refl _) (cargs := #[cv, .int .u8 (.ofNat a)]) ⟨hv, by simp, trivial⟩).mono ?_
  rintro e1 w' ⟨N', φ', cv', v, h', _, rfl, hq, _, hv', _, hb⟩
  have hq : v = .bool true := hq
  subst hq
  rw [AX.VR_bool] at hv'; subst hv'
  exact ⟨rfl, hb⟩
set_option maxRecDepth 100000 in
theorem lifted (os : Os) (started : os.Started) (H : Type) (enc : TypeId × Value → H) :
    ReturnsInHanded {} Try.checked os 6 .any (Rows.gensBackSpec.pre6 enc Try.prog Try.f6 Rows.gensBackRow.domain false) (Rows.gensBackSpec.post enc Try.prog Try.f6 false true false false) := by
  refine returnsInHanded_of_change (C := Try.checked) own started (by kernel_rfl) Try.func6
    (ChangeSpec.witness6 (enc := enc) (C := Try.checked) false ⟨#[], #[.slice none 0 0, .int .u8 0], []⟩ 8 (by kernel_rfl) (by kernel_rfl) (by kernel_rfl) (by kernel_rfl)) ?_
  intro M base args ds gs before hval0 hW hcnd _
  have hW' := hW
  have hlt := hW.lt
  obtain ⟨p, q, hA0, hV, rfl, hfz, hnd⟩ := hW
  have hA : DataW.TrodAll enc Try.prog M 0 (fun _ => true) true Try.f6.params.toList args.toList ds p := hA0
  rw [Try.params6] at hA hval0
  have hA1 := hA
  obtain ⟨v0, vs0, d0, ds0, p0, q0, hargs, rfl, rfl, g0, r0⟩ := trodAll_cons hA
  obtain ⟨v1, vs1, d1, ds1, p1, q1, rfl, rfl, rfl, g1, r1⟩ := trodAll_cons r0
  obtain ⟨rfl, rfl, rfl⟩ := trodAll_nil r1
  obtain rfl : args = #[v0, v1] := by cases args; simp_all
  obtain ⟨rfl, rfl⟩ := trodVars_none hV
  obtain ⟨vl, l, hv, sl, hl, _⟩ := AX.nats_arg (k := .u8) rfl W.u22 W.u5 (by kernel_rfl) (hval0 0 22 v0 rfl rfl) g0
  obtain ⟨e0, rfl, _, _, w0⟩ := open_int W.u5 (hval0 1 5 v1 rfl rfl) g1
  obtain ⟨a, rfl, ha⟩ := AX.wf_nat (k := .u8) rfl w0
  simp only [List.append_nil] at hW' hlt
  refine (walk M a vl l v0 ha hv sl hl).mono fun e1 M' ⟨he, hb⟩ => ?_
  subst he
  exact ⟨_, rfl, _, [], _, [], _, [], hW', trodAll_cons_mk (shut_bool Try.underlying4 _) trodAll_mk0, AX.trodAll_below laidOut hb readable hA1 (fun p hp => hlt p (by simpa using hp)) _ (fun p hp => decide_eq_true (hlt p (by simpa using hp))), rfl, hb.frame _, fun h => by cases h⟩
theorem over : Rows.gensBackRow.holds Try.pinned (OpenSpec.ofChange Rows.gensBackSpec) :=
  OpenClaim.holds_of_wide 6 Try.f6 rfl rfl rfl rfl rfl rfl rfl ⟨rfl, rfl, rfl, rfl, rfl⟩ rfl rfl rfl rfl rfl (by kernel_rfl) Try.func6 (by kernel_rfl)
    (of_decide_eq_true (by kernel_rfl)) (by unfold Func.isWrapper; first | (rw [if_pos (by decide +kernel)]; kernel_rfl) | (rw [if_neg (by decide +kernel)]; exact ⟨rfl, rfl⟩))
    (fun os started H enc _ => lifted os started H enc)
theorem proved : Rows.GensBackSaid := over
#print axioms proved
end Go.Proofs.Ytlkngpckibidlaa.gensBack


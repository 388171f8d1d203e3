/-
  AX: the laws of its maps keyed by numbers, and of lists held together member by member.
-/
import Derived.Test.YtnhnhiieomhgfaaGreatDoorAxDef
namespace Go.AX

@[simp] theorem T.get_e' {α : Type} (k : Nat) : (T.e : T α).get k = none := rfl
@[simp] theorem T.get_n0 {α : Type} (l : T α) (v : Option α) (r : T α) : (T.n l v r).get 0 = v := rfl
@[simp] theorem T.get_n {α : Type} (l : T α) (v : Option α) (r : T α) (k : Nat) : (T.n l v r).get (k + 1) = match Nat.beq (k % 2) 0 with
      | true => l.get (k / 2)
      | false => r.get (k / 2) := by
  show Bool.rec (motive := fun _ => Option α) _ _ (Nat.beq (k % 2) 0) = _
  cases Nat.beq (k % 2) 0 <;> rfl
theorem T.setF_e0 {α : Type} (f : Nat) (x : Option α) : T.setF (f + 1) .e 0 x = .n .e x .e := rfl
theorem T.setF_n0 {α : Type} (f : Nat) (l : T α) (v : Option α) (r : T α) (x : Option α) : T.setF (f + 1) (.n l v r) 0 x = .n l x r := rfl
theorem T.setF_e {α : Type} (f k : Nat) (x : Option α) : T.setF (f + 1) .e (k + 1) x = match Nat.beq (k % 2) 0 with
      | true => .n (setF f .e (k / 2) x) none .e
      | false => .n .e none (setF f .e (k / 2) x) := by
  show Bool.rec (motive := fun _ => T α) _ _ (Nat.beq (k % 2) 0) = _
  cases Nat.beq (k % 2) 0 <;> rfl
theorem T.setF_n {α : Type} (f k : Nat) (l : T α) (v : Option α) (r : T α) (x : Option α) : T.setF (f + 1) (.n l v r) (k + 1) x = match Nat.beq (k % 2) 0 with
      | true => .n (setF f l (k / 2) x) v r
      | false => .n l v (setF f r (k / 2) x) := by
  show Bool.rec (motive := fun _ => T α) _ _ (Nat.beq (k % 2) 0) = _
  cases Nat.beq (k % 2) 0 <;> rfl

theorem half_lt {k f : Nat} (h : k + 1 < f + 1) : k / 2 < f := by omega

theorem T.get_setF {α : Type} : ∀ (f : Nat) (t : T α) (k k' : Nat) (x : Option α), k < f →
    (T.setF f t k x).get k' = if k' = k then x else t.get k'
  | 0, _, _, _, _, h => absurd h (Nat.not_lt_zero _)
  | f + 1, .e, 0, k', x, _ => by
    cases k' with
    | zero => simp [T.setF_e0, T.setF_n0, T.setF_e, T.setF_n]
    | succ k' => simp only [T.setF_e0, T.setF_n0, T.setF_e, T.setF_n, T.get_n]; cases Nat.beq (k' % 2) 0 <;> simp
  | f + 1, .n l v r, 0, k', x, _ => by
    cases k' with
    | zero => simp [T.setF_e0, T.setF_n0, T.setF_e, T.setF_n]
    | succ k' => simp only [T.setF_e0, T.setF_n0, T.setF_e, T.setF_n, T.get_n]; simp
  | f + 1, .e, k + 1, k', x, h => by
    have ih := fun j => T.get_setF f (.e : T α) (k / 2) j x (by omega)
    cases k' with
    | zero => simp only [T.setF_e, T.setF_n]; cases Nat.beq (k % 2) 0 <;> simp
    | succ k' =>
      simp only [T.setF_e, T.setF_n]
      cases hk : Nat.beq (k % 2) 0 <;> cases hk' : Nat.beq (k' % 2) 0 <;> simp only [T.get_n, T.get_e', hk', ih] <;>
        (try (have := Nat.eq_of_beq_eq_true hk)) <;> (try (have := Nat.eq_of_beq_eq_true hk')) <;>
        (try (have := Nat.ne_of_beq_eq_false hk)) <;> (try (have := Nat.ne_of_beq_eq_false hk')) <;>
        (repeat' split) <;> first | rfl | omega | (exfalso; omega) | simp_all
  | f + 1, .n l v r, k + 1, k', x, h => by
    have ihl := fun j => T.get_setF f l (k / 2) j x (by omega)
    have ihr := fun j => T.get_setF f r (k / 2) j x (by omega)
    cases k' with
    | zero => simp only [T.setF_e, T.setF_n]; cases Nat.beq (k % 2) 0 <;> simp
    | succ k' =>
      simp only [T.setF_e, T.setF_n]
      cases hk : Nat.beq (k % 2) 0 <;> cases hk' : Nat.beq (k' % 2) 0 <;> simp only [T.get_n, T.get_e', hk', ihl, ihr] <;>
        (try (have := Nat.eq_of_beq_eq_true hk)) <;> (try (have := Nat.eq_of_beq_eq_true hk')) <;>
        (try (have := Nat.ne_of_beq_eq_false hk)) <;> (try (have := Nat.ne_of_beq_eq_false hk')) <;>
        (repeat' split) <;> first | rfl | omega | (exfalso; omega) | simp_all

theorem T.get_set {α : Type} (t : T α) (k k' : Nat) (x : Option α) : (t.set k x).get k' = if k' = k then x else t.get k' :=
  T.get_setF (k + 1) t k k' x (Nat.lt_succ_self k)

@[simp] theorem T.get_e {α : Type} (k : Nat) : (T.e : T α).get k = none := rfl

theorem T.get_fill {α : Type} : ∀ (l : List α) (t : T α) (k j : Nat),
    (t.fill k l).get j = if k ≤ j ∧ j < k + l.length then l[j - k]? else t.get j
  | [], t, k, j => by simp only [T.fill, List.length_nil]; rw [if_neg (by omega)]
  | x :: l, t, k, j => by
    simp only [T.fill, T.get_fill l, T.get_set, List.length_cons]
    by_cases h : j = k
    · subst h; rw [if_neg (by omega), if_pos rfl, if_pos (by omega)]; simp
    · by_cases h2 : k + 1 ≤ j ∧ j < k + 1 + l.length
      · rw [if_pos h2, if_pos (by omega), show j - k = (j - (k + 1)) + 1 by omega]; simp
      · rw [if_neg h2, if_neg h, if_neg (by omega)]

theorem T.get_fill0 {α : Type} (l : List α) (j : Nat) : (T.fill .e 0 l).get j = l[j]? := by
  rw [T.get_fill]
  split
  · simp
  · rename_i h; rw [T.get_e, List.getElem?_eq_none (by omega)]

/-! ## two lists, member by member -/

def All2 {α β : Type} (R : α → β → Prop) : List α → List β → Prop
  | [], [] => True
  | a :: l, b :: l' => R a b ∧ All2 R l l'
  | [], _ :: _ => False
  | _ :: _, [] => False

section
variable {α β : Type} {R : α → β → Prop}

@[simp] theorem All2.nil : All2 R [] [] := trivial
@[simp] theorem All2.cons_iff {a : α} {b : β} {l : List α} {l' : List β} : All2 R (a :: l) (b :: l') ↔ R a b ∧ All2 R l l' := Iff.rfl

theorem All2.nil_left {l' : List β} : All2 R [] l' ↔ l' = [] := by cases l' <;> simp [All2]
theorem All2.nil_right {l : List α} : All2 R l [] ↔ l = [] := by cases l <;> simp [All2]
theorem All2.cons_left {a : α} {l : List α} {l' : List β} : All2 R (a :: l) l' ↔ ∃ b r, l' = b :: r ∧ R a b ∧ All2 R l r := by
  cases l' with
  | nil => simp [All2]
  | cons b r => simp only [All2.cons_iff, List.cons.injEq]; exact ⟨fun h => ⟨b, r, ⟨rfl, rfl⟩, h⟩, fun ⟨_, _, ⟨h1, h2⟩, h⟩ => by subst h1; subst h2; exact h⟩

theorem All2.length : ∀ {l : List α} {l' : List β}, All2 R l l' → l.length = l'.length
  | [], [], _ => rfl
  | _ :: _, _ :: _, h => by simp [All2.length h.2]
  | [], _ :: _, h => h.elim
  | _ :: _, [], h => h.elim

theorem All2.mono {R' : α → β → Prop} (hr : ∀ a b, R a b → R' a b) : ∀ {l : List α} {l' : List β}, All2 R l l' → All2 R' l l'
  | [], [], _ => trivial
  | _ :: _, _ :: _, h => ⟨hr _ _ h.1, All2.mono hr h.2⟩
  | [], _ :: _, h => h.elim
  | _ :: _, [], h => h.elim

theorem All2.append : ∀ {l : List α} {l' : List β} {r : List α} {r' : List β}, All2 R l l' → All2 R r r' → All2 R (l ++ r) (l' ++ r')
  | [], [], _, _, _, h => h
  | _ :: _, _ :: _, _, _, h, h' => ⟨h.1, All2.append h.2 h'⟩
  | [], _ :: _, _, _, h, _ => h.elim
  | _ :: _, [], _, _, h, _ => h.elim

theorem All2.append_left : ∀ {l : List α} {r : List α} {l' : List β}, All2 R (l ++ r) l' → ∃ x y, l' = x ++ y ∧ All2 R l x ∧ All2 R r y
  | [], _, l', h => ⟨[], l', rfl, trivial, h⟩
  | a :: l, r, l', h => by
    obtain ⟨b, t, rfl, h1, h2⟩ := All2.cons_left.1 (by simpa using h)
    obtain ⟨x, y, rfl, hx, hy⟩ := All2.append_left h2
    exact ⟨b :: x, y, rfl, ⟨h1, hx⟩, hy⟩

theorem All2.get : ∀ {l : List α} {l' : List β}, All2 R l l' → ∀ {i : Nat} {a : α}, l[i]? = some a → ∃ b, l'[i]? = some b ∧ R a b
  | [], [], _, _, _, h => by simp at h
  | _ :: _, b :: _, h, 0, _, hi => by simp at hi; subst hi; exact ⟨b, rfl, h.1⟩
  | _ :: _, _ :: _, h, i + 1, _, hi => by simp at hi; simpa using All2.get h.2 hi
  | [], _ :: _, h, _, _, _ => h.elim
  | _ :: _, [], h, _, _, _ => h.elim

theorem All2.get' : ∀ {l : List α} {l' : List β}, All2 R l l' → ∀ {i : Nat} {b : β}, l'[i]? = some b → ∃ a, l[i]? = some a ∧ R a b
  | [], [], _, _, _, h => by simp at h
  | a :: _, _ :: _, h, 0, _, hi => by simp at hi; subst hi; exact ⟨a, rfl, h.1⟩
  | _ :: _, _ :: _, h, i + 1, _, hi => by simp at hi; simpa using All2.get' h.2 hi
  | [], _ :: _, h, _, _, _ => h.elim
  | _ :: _, [], h, _, _, _ => h.elim

theorem All2.of_get : ∀ {l : List α} {l' : List β}, l.length = l'.length → (∀ (i : Nat) (a : α) (b : β), l[i]? = some a → l'[i]? = some b → R a b) → All2 R l l'
  | [], [], _, _ => trivial
  | a :: l, b :: l', h, hr => ⟨hr 0 a b rfl rfl, All2.of_get (by simpa using h) (fun i x y hx hy => hr (i + 1) x y (by simpa using hx) (by simpa using hy))⟩
  | [], _ :: _, h, _ => by simp at h
  | _ :: _, [], h, _ => by simp at h

theorem All2.take {l : List α} {l' : List β} (h : All2 R l l') (n : Nat) : All2 R (l.take n) (l'.take n) := by
  induction n generalizing l l' with
  | zero => simp
  | succ n ih => cases l <;> cases l' <;> simp_all [All2]

theorem All2.drop {l : List α} {l' : List β} (h : All2 R l l') (n : Nat) : All2 R (l.drop n) (l'.drop n) := by
  induction n generalizing l l' with
  | zero => simpa using h
  | succ n ih => cases l <;> cases l' <;> simp_all [All2]

theorem All2.map_left {γ : Type} {f : γ → α} : ∀ {l : List γ} {l' : List β}, All2 R (l.map f) l' ↔ All2 (fun c b => R (f c) b) l l'
  | [], [] => by simp
  | _ :: _, _ :: _ => by simp [All2.map_left]
  | [], _ :: _ => by simp [All2]
  | _ :: _, [] => by simp [All2]

theorem All2.map_right {γ : Type} {f : γ → β} : ∀ {l : List α} {l' : List γ}, All2 R l (l'.map f) ↔ All2 (fun a c => R a (f c)) l l'
  | [], [] => by simp
  | _ :: _, _ :: _ => by simp [All2.map_right]
  | [], _ :: _ => by simp [All2]
  | _ :: _, [] => by simp [All2]

theorem All2.same {R : α → α → Prop} (h : ∀ a, R a a) : ∀ l : List α, All2 R l l
  | [] => trivial
  | a :: l => ⟨h a, All2.same h l⟩

theorem All2.mem_left : ∀ {l : List α} {l' : List β}, All2 R l l' → ∀ {a}, a ∈ l → ∃ b, b ∈ l' ∧ R a b
  | [], _, _, _, h => by simp at h
  | _ :: _, b :: _, h, x, hx => by
    rcases List.mem_cons.1 hx with rfl | hx
    · exact ⟨b, by simp, h.1⟩
    · obtain ⟨c, hc, hr⟩ := All2.mem_left h.2 hx; exact ⟨c, by simp [hc], hr⟩
  | _ :: _, [], h, _, _ => h.elim

end
end Go.AX

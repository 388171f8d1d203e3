/-
  AX: texts, sorted. Plain.
-/
import Derived.Test.YtnhnhiieomhgfaaGreatDoorAxDef
import Derived.Sort.KeysCollected
namespace Go.AX
open Go.Maps

def insertS (s : List Nat) : List (List Nat) → List (List Nat)
  | [] => [s]
  | t :: l => match listLtB t s with
    | true => t :: insertS s l
    | false => s :: t :: l

def sortS : List (List Nat) → List (List Nat)
  | [] => []
  | s :: l => insertS s (sortS l)

def nats (l : List UInt8) : List Nat := l.map UInt8.toNat

theorem nats_inj : ∀ {a b : List UInt8}, nats a = nats b → a = b
  | [], [], _ => rfl
  | x :: a, y :: b, h => by
    simp only [nats, List.map_cons, List.cons.injEq] at h
    obtain ⟨h1, h2⟩ := h
    rw [UInt8.toNat_inj.1 h1, nats_inj (a := a) (b := b) h2]
  | [], _ :: _, h => by cases h
  | _ :: _, [], h => by cases h

theorem ltB_iff : ∀ (a b : List UInt8), listLtB (nats a) (nats b) = true ↔ a < b
  | _, [] => by simp [nats, listLtB]
  | [], y :: b => by simp [nats, listLtB]
  | x :: a, y :: b => by
    have ih := ltB_iff a b
    simp only [nats, List.map_cons, listLtB] at ih ⊢
    rw [List.cons_lt_cons_iff]
    cases h : Nat.blt x.toNat y.toNat with
    | true =>
      have : x.toNat < y.toNat := Nat.le_of_ble_eq_true h
      simp [UInt8.lt_iff_toNat_lt, this]
    | false =>
      have hn : ¬ x.toNat < y.toNat := fun e => by rw [show Nat.blt x.toNat y.toNat = true from Nat.ble_eq_true_of_le e] at h; cases h
      simp only
      cases h2 : Nat.beq x.toNat y.toNat with
      | true =>
        have e := UInt8.toNat_inj.1 (Nat.eq_of_beq_eq_true h2)
        subst e
        simp only [ih]
        simp
      | false =>
        have hne : x ≠ y := fun e => by subst e; rw [Nat.beq_refl] at h2; cases h2
        simp [UInt8.lt_iff_toNat_lt, hn, hne]

theorem insertS_perm (s : List Nat) : ∀ l, (insertS s l).Perm (s :: l)
  | [] => .refl _
  | t :: l => by
    simp only [insertS]
    split
    · exact ((insertS_perm s l).cons t).trans (.swap _ _ _)
    · exact .refl _

theorem sortS_perm : ∀ l, (sortS l).Perm l
  | [] => .refl _
  | s :: l => (insertS_perm s (sortS l)).trans ((sortS_perm l).cons s)

/-- The order that they are sorted by, on texts that are bytes. -/
def leN (a b : List Nat) : Prop := listLtB b a = false

theorem leN_nats (a b : List UInt8) : leN (nats a) (nats b) ↔ a ≤ b := by
  unfold leN
  have := ltB_iff b a
  constructor
  · intro h
    by_cases h2 : a ≤ b
    · exact h2
    · rw [List.not_le] at h2
      rw [this.2 h2] at h; cases h
  · intro h
    cases h2 : listLtB (nats b) (nats a) with
    | false => rfl
    | true => exact absurd (this.1 h2) (List.not_lt.2 h)

theorem mem_insertS {s x : List Nat} {l : List (List Nat)} : x ∈ insertS s l ↔ x = s ∨ x ∈ l := by
  rw [(insertS_perm s l).mem_iff, List.mem_cons]

theorem insertS_sorted {s : List UInt8} : ∀ {l : List (List UInt8)}, (l.map nats).Pairwise leN → (insertS (nats s) (l.map nats)).Pairwise leN
  | [], _ => by simp [insertS]
  | t :: l, h => by
    simp only [List.map_cons, List.pairwise_cons] at h
    simp only [List.map_cons, insertS]
    cases hc : listLtB (nats t) (nats s) with
    | true =>
      simp only [List.pairwise_cons]
      refine ⟨fun x hx => ?_, insertS_sorted h.2⟩
      rcases mem_insertS.1 hx with rfl | hx
      · rw [leN_nats]; exact List.le_of_lt ((ltB_iff t s).1 hc)
      · exact h.1 x hx
    | false =>
      have hst : s ≤ t := (leN_nats s t).1 hc
      simp only [List.pairwise_cons]
      refine ⟨fun x hx => ?_, h.1, h.2⟩
      simp only [List.mem_cons, List.mem_map] at hx
      rcases hx with rfl | ⟨y, hy, rfl⟩
      · exact hc
      · have := (leN_nats t y).1 (h.1 _ (List.mem_map.2 ⟨y, hy, rfl⟩))
        rw [leN_nats]; exact List.le_trans hst this

theorem sortS_isMap : ∀ (l : List (List UInt8)), ∃ m : List (List UInt8), sortS (l.map nats) = m.map nats ∧ m.Perm l ∧ (m.map nats).Pairwise leN
  | [] => ⟨[], rfl, .refl _, by simp⟩
  | s :: l => by
    obtain ⟨m, h1, h2, h3⟩ := sortS_isMap l
    have hs := insertS_sorted (s := s) h3
    have hp := insertS_perm (nats s) (m.map nats)
    simp only [List.map_cons, sortS, h1]
    obtain ⟨m', e, hm'⟩ : ∃ m' : List (List UInt8), insertS (nats s) (m.map nats) = m'.map nats ∧ m'.Perm (s :: m) := by
      clear hs hp h1 h2 h3
      induction m with
      | nil => exact ⟨[s], rfl, .refl _⟩
      | cons t m ih =>
        simp only [List.map_cons, insertS]
        split
        · obtain ⟨m', e, hp⟩ := ih
          exact ⟨t :: m', by rw [e]; rfl, (hp.cons t).trans (.swap _ _ _)⟩
        · exact ⟨s :: t :: m, rfl, .refl _⟩
    refine ⟨m', e, hm'.trans (h2.cons s), ?_⟩
    rw [← e]; exact hs

/-- Sorted texts are sorted texts, in whatever way. -/
theorem sortS_mergeSort {l ss : List (List UInt8)} (h : ss.Perm l) : sortS (l.map nats) = (ss.mergeSort leB).map nats := by
  obtain ⟨m, h1, h2, h3⟩ := sortS_isMap l
  rw [h1]
  congr 1
  have tr : ∀ a b c : List UInt8, leB a b = true → leB b c = true → leB a c = true := fun a b c h1 h2 => by simp only [leB, decide_eq_true_eq] at *; exact List.le_trans h1 h2
  have to : ∀ a b : List UInt8, (leB a b || leB b a) = true := fun a b => by simp only [leB, Bool.or_eq_true, decide_eq_true_eq]; exact List.le_total a b
  have hm : m.Pairwise (fun a b => leB a b = true) := by
    rw [List.pairwise_map] at h3
    refine h3.imp fun {a b} hab => ?_
    simp only [leB, decide_eq_true_eq]
    exact (leN_nats a b).1 hab
  refine List.Perm.eq_of_pairwise (le := fun a b => leB a b = true) (fun a b _ _ h1 h2 => ?_) hm (List.pairwise_mergeSort tr to ss) ((h2.trans h.symm).trans (List.mergeSort_perm ss leB).symm)
  simp only [leB, decide_eq_true_eq] at h1 h2
  exact List.le_antisymm h1 h2

end Go.AX

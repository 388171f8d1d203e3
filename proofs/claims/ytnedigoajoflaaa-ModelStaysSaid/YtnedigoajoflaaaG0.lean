/-
  AX: walks: maps whose keys are not known.
-/
import Derived.Test.YtnedigoajoflaaaAxI
import Derived.Test.YtnedigoajoflaaaAxG
import Derived.Test.YtnedigoajoflaaaAxF
import Derived.Lib.Overlaps
import Derived.Test.YtnedigoajoflaaaProg
import Derived.KernelRfl
import Derived.Shelf.SlIter.Nil
import Derived.Shelf.SortM.Plain
import Derived.Shelf.SortM.SortNone
import Derived.Ground.GgzProg
import Derived.Ground.SlgmProg
import Derived.Laws.IdiomCopy
import Derived.ProofKit
set_option linter.unusedSimpArgs false
set_option linter.unusedVariables false
set_option linter.unusedSectionVars false
open Nat (reduceLT reduceLeDiff reduceEqDiff reduceAdd reduceMul reduceSub)
namespace Go.AX
noncomputable section
open Go.RowKit
section
variable {P : Program} {tm : T AV} {h : H}
def oH (x : Option H) : R :=
 match x with
 | some h => .skip h
 | none => .fail
theorem oH_some (h : H) : oH (some h) = .skip h := id rfl
theorem ex_lookup (t : TypeId) (x i : Operand) (ok : Bool) : execA P tm h (.lookup t x i ok) = ob (evalA tm x) fun v => ob (evalA tm i) fun j => ob (lookupA P t v j ok h) fun v => .val v h := by
 simp only [execA]
 cases evalA tm x with
 | none => cases evalA tm i <;> rfl
 | some v => cases evalA tm i <;> rfl
theorem ex_mapUpdate (t : TypeId) (m k x : Operand) : execA P tm h (.mapUpdate t m k x) = ob (evalA tm m) fun m => ob (evalA tm k) fun k => ob (evalA tm x) fun x => oH (updateA P t m k x h) := by
 simp only [execA]
 cases evalA tm m with
 | none => cases evalA tm k <;> cases evalA tm x <;> rfl
 | some v => cases evalA tm k with
  | none => cases evalA tm x <;> rfl
  | some w => cases evalA tm x <;> rfl
end
section
variable {κ : Type} [DecidableEq κ]
def posK (k : κ) : List (κ × AV) → Nat → Option (Nat × AV)
 | [], _ => none
 | (a, v) :: L, i => if k = a then some (i, v) else posK k L (i + 1)
def mapGet (k : κ) (L : List (κ × AV)) : Option AV := (L.find? fun p => decide (k = p.1)).map (·.2)
def mapPut (k : κ) (v : AV) : List (κ × AV) → List (κ × AV)
 | [] => [(k, v)]
 | (a, w) :: L => if k = a then (a, v) :: L else (a, w) :: mapPut k v L
def mapDel (k : κ) : List (κ × AV) → List (κ × AV)
 | [] => []
 | (a, w) :: L => if k = a then L else (a, w) :: mapDel k L
theorem pos_get (k : κ) : ∀ (L : List (κ × AV)) (i : Nat), (posK k L i).map (·.2) = mapGet k L
 | [], _ => rfl
 | (a, v) :: L, i => by
  unfold posK mapGet
  rw [List.find?_cons]
  by_cases e : k = a
  ·simp [e]
  ·simp only [e, if_false, decide_false]
   exact pos_get k L (i + 1)
theorem pos_le (k : κ) : ∀ {L : List (κ × AV)} {i j : Nat} {v : AV}, posK k L i = some (j, v) → i ≤ j
 | [], _, _, _, h => by cases h
 | (a, w) :: L, i, j, v, h => by
  unfold posK at h
  split at h
  ·cases h; exact Nat.le_refl _
  ·exact Nat.le_trans (Nat.le_succ _) (pos_le k h)
structure KeyT (P : Program) (kt : TypeId) (enc : κ → AV) : Prop where
 kv : ∀ k, keyV P 4 kt (enc k) = true
 eq : ∀ a b, keyEq P kt (enc a) (enc b) = some (decide (a = b))
 sm : ∀ a, sameV (enc a) (enc a) = true
def entP (e : AV × AV × Nat) : AV × AV := (e.1, e.2.1)
def encP (enc : κ → AV) (p : κ × AV) : AV × AV := (enc p.1, p.2)
structure MapK (enc : κ → AV) (h : H) (r : Nat) (L : List (κ × AV)) : Prop where
 has : ∃ es clock, h.t.get r = some (.map es clock) ∧ es.map entP = L.map (encP enc) ∧ (es.map (·.2.2)).Nodup ∧ ∀ e, e ∈ es → e.2.2 < clock
 lt : r < h.nx
variable {P : Program} {kt : TypeId} {enc : κ → AV}
theorem find_pos (hk : KeyT P kt enc) (k : κ) : ∀ {es : List (AV × AV × Nat)} {L : List (κ × AV)} (i : Nat), es.map entP = L.map (encP enc) → findA P kt (enc k) es i = some (posK k L i)
 | [], [], i, _ => rfl
 | [], p :: L, i, h => by simp at h
 | e :: es, [], i, h => by simp at h
 | e :: es, (a, v) :: L, i, h => by
  rw [List.map_cons, List.map_cons, List.cons.injEq] at h
  have e1 : e.1 = enc a := congrArg Prod.fst h.1
  have e2 : e.2.1 = v := congrArg Prod.snd h.1
  unfold findA posK
  rw [e1, hk.eq k a]
  by_cases q : k = a
  ·simp [q, e2]
  ·simp only [q, decide_false, if_false]
   exact find_pos hk k (i + 1) h.2
theorem set_put (k : κ) (v : AV) : ∀ {es : List (AV × AV × Nat)} {L : List (κ × AV)} {i j : Nat} {w : AV}, es.map entP = L.map (encP enc) → posK k L i = some (j, w) → (setVal v es (j - i)).map entP = (mapPut k v L).map (encP enc) ∧ (setVal v es (j - i)).map (·.2.2) = es.map (·.2.2)
 | [], [], i, j, w, _, hp => by cases hp
 | [], p :: L, i, j, w, h, _ => by simp at h
 | e :: es, [], i, j, w, h, _ => by simp at h
 | e :: es, (a, u) :: L, i, j, w, h, hp => by
  rw [List.map_cons, List.map_cons, List.cons.injEq] at h
  have e1 : e.1 = enc a := congrArg Prod.fst h.1
  unfold posK at hp
  unfold mapPut
  by_cases q : k = a
  ·rw [if_pos q] at hp
   cases hp
   rw [if_pos q, Nat.sub_self]
   refine ⟨?_, rfl⟩
   unfold setVal
   rw [List.map_cons, List.map_cons, h.2]
   unfold entP encP
   rw [e1]
  ·rw [if_neg q] at hp
   rw [if_neg q]
   have hle := pos_le k hp
   obtain ⟨j', rfl⟩ : ∃ j', j = i + 1 + j' := ⟨j - (i + 1), by omega⟩
   have ih := set_put k v h.2 hp
   rw [show i + 1 + j' - (i + 1) = j' by omega] at ih
   rw [show i + 1 + j' - i = j' + 1 by omega]
   unfold setVal
   rw [List.map_cons, List.map_cons, List.map_cons, List.map_cons, ih.1, ih.2, h.1]
   exact ⟨rfl, rfl⟩
theorem put_new (k : κ) (v : AV) : ∀ {L : List (κ × AV)} {i : Nat}, posK k L i = none → mapPut k v L = L ++ [(k, v)]
 | [], _, _ => rfl
 | (a, w) :: L, i, h => by
  unfold posK at h
  unfold mapPut
  by_cases q : k = a
  ·rw [if_pos q] at h; cases h
  ·rw [if_neg q] at h
   rw [if_neg q, put_new k v h]; rfl
theorem same_at (hk : KeyT P kt enc) (k : κ) : ∀ {es : List (AV × AV × Nat)} {L : List (κ × AV)} {i j : Nat} {w : AV}, es.map entP = L.map (encP enc) → posK k L i = some (j, w) → sameAt (enc k) es (j - i) = true ∧ ∃ e, es[j - i]? = some e ∧ e.1 = enc k ∧ e.2.1 = w
 | [], [], i, j, w, _, hp => by cases hp
 | [], p :: L, i, j, w, h, _ => by simp at h
 | e :: es, [], i, j, w, h, _ => by simp at h
 | e :: es, (a, u) :: L, i, j, w, h, hp => by
  rw [List.map_cons, List.map_cons, List.cons.injEq] at h
  have e1 : e.1 = enc a := congrArg Prod.fst h.1
  have e2 : e.2.1 = u := congrArg Prod.snd h.1
  unfold posK at hp
  by_cases q : k = a
  ·rw [if_pos q] at hp
   cases hp
   rw [Nat.sub_self]
   unfold sameAt
   simp only [List.getElem?_cons_zero]
   rw [e1, ← q]
   exact ⟨hk.sm k, e, rfl, by rw [e1, q], e2⟩
  ·rw [if_neg q] at hp
   have hle := pos_le k hp
   have ih := same_at hk k h.2 hp
   rw [show j - i = (j - (i + 1)) + 1 by omega]
   unfold sameAt at ih ⊢
   rw [List.getElem?_cons_succ]
   exact ih
theorem del_at (k : κ) : ∀ {es : List (AV × AV × Nat)} {L : List (κ × AV)} {i j : Nat} {w : AV}, es.map entP = L.map (encP enc) → posK k L i = some (j, w) → (es.eraseIdx (j - i)).map entP = (mapDel k L).map (encP enc)
 | [], [], i, j, w, _, hp => by cases hp
 | [], p :: L, i, j, w, h, _ => by simp at h
 | e :: es, [], i, j, w, h, _ => by simp at h
 | e :: es, (a, u) :: L, i, j, w, h, hp => by
  rw [List.map_cons, List.map_cons, List.cons.injEq] at h
  unfold posK at hp
  unfold mapDel
  by_cases q : k = a
  ·rw [if_pos q] at hp
   cases hp
   rw [if_pos q, Nat.sub_self]
   exact h.2
  ·rw [if_neg q] at hp
   rw [if_neg q]
   have hle := pos_le k hp
   have ih := del_at k h.2 hp
   rw [show j - i = (j - (i + 1)) + 1 by omega, List.eraseIdx_cons_succ, List.map_cons, List.map_cons, ih, h.1]
theorem del_no (k : κ) : ∀ {L : List (κ × AV)} {i : Nat}, posK k L i = none → mapDel k L = L
 | [], _, _ => rfl
 | (a, w) :: L, i, h => by
  unfold posK at h
  unfold mapDel
  by_cases q : k = a
  ·rw [if_pos q] at h; cases h
  ·rw [if_neg q] at h
   rw [if_neg q, del_no k h]
theorem MapK.get {h h' : H} {r : Nat} {L : List (κ × AV)} (hm : MapK enc h r L) (hx : h.nx ≤ h'.nx) (e : h'.t.get r = h.t.get r) : MapK enc h' r L :=
 ⟨by obtain ⟨es, c, h1, h2⟩ := hm.has; exact ⟨es, c, by rw [e]; exact h1, h2⟩, Nat.lt_of_lt_of_le hm.lt hx⟩
theorem MapK.keep {h h' : H} {r : Nat} {L : List (κ × AV)} (hm : MapK enc h r L) {S : List Nat} (o : Only h h' S) (hr : r ∉ S) : MapK enc h' r L := hm.get o.1 (o.2 r hm.lt hr)
variable {t elem : TypeId} {h : H} {r : Nat} {L : List (κ × AV)}
theorem lookup_k (ht : P.underlying t = some (.map kt elem)) (hk : KeyT P kt enc) {z : AV} (hz : zeroA P elem = some z) (hm : MapK enc h r L) (k : κ) (ok : Bool) :
  lookupA P t (.map r) (enc k) ok h = some (match ok with | true => .tuple [(mapGet k L).getD z, .bool (mapGet k L).isSome] | false => (mapGet k L).getD z) := by
 obtain ⟨es, c, h1, h2, h3, h4⟩ := hm.has
 unfold lookupA
 simp only [ht, hk.kv k, h1, find_pos hk k 0 h2, hz]
 rw [← pos_get k L 0]
 cases posK k L 0 with
 | none => cases ok <;> rfl
 | some x => cases ok <;> rfl
theorem len_k (ht : P.underlying t = some (.map kt elem)) (hm : MapK enc h r L) (ts : List TypeId) (xs : List AV) : builtinA P .len (t :: ts) (.map r :: xs) h = .val (.int .i64 (.ofNat L.length)) h := by
 obtain ⟨es, c, h1, h2, h3, h4⟩ := hm.has
 have hl : es.length = L.length:= by have := congrArg List.length h2; simpa using this
 simp only [builtinA, lenA, ht, h1, hl]
theorem update_k (ht : P.underlying t = some (.map kt elem)) (hk : KeyT P kt enc) (hm : MapK enc h r L) (k : κ) (v : AV) :
  ∃ h', updateA P t (.map r) (enc k) v h = some h' ∧ MapK enc h' r (mapPut k v L) ∧ h'.nx = h.nx ∧ Only h h' [r] ∧ h'.g = h.g := by
 obtain ⟨es, c, h1, h2, h3, h4⟩ := hm.has
 have hlt := hm.lt
 cases hp : posK k L 0 with
 | none =>
  have ho : Only h { h with t := h.t.set r (some (.map (es ++ [(enc k, v, c)]) (c + 1))) } [r] := ⟨Nat.le_refl _, fun b hb hn => by
   rw [T.get_set, if_neg (fun e => hn (by rw [e]; simp))]⟩
  refine ⟨{ h with t := h.t.set r (some (.map (es ++ [(enc k, v, c)]) (c + 1))) }, by unfold updateA; simp only [ht, hk.kv k, h1, find_pos hk k 0 h2, hp], ⟨⟨es ++ [(enc k, v, c)], c + 1, by rw [T.get_set, if_pos rfl], ?_, ?_, fun e he => ?_⟩, hlt⟩, rfl, ho, rfl⟩
  ·rw [put_new k v hp, List.map_append, List.map_append, h2]; rfl
  ·rw [List.map_append, List.nodup_append]
   refine ⟨h3, by simp, fun a ha b hb => ?_⟩
   simp only [List.map_cons, List.map_nil, List.mem_singleton] at hb
   obtain ⟨e, he, rfl⟩ := List.mem_map.1 ha
   have := h4 e he
   omega
  ·rcases List.mem_append.1 he with q | q
   ·have := h4 e q; omega
   ·rw [List.mem_singleton] at q; subst q; exact Nat.lt_succ_self _
 | some x =>
  obtain ⟨j, w⟩ := x
  have hsa := (same_at hk k h2 hp).1
  obtain ⟨s1, s2⟩ := set_put k v h2 hp
  rw [Nat.sub_zero] at hsa s1 s2
  refine ⟨{ h with t := h.t.set r (some (.map (setVal v es j) c)) }, by unfold updateA; simp only [ht, hk.kv k, h1, find_pos hk k 0 h2, hp, hsa], ⟨⟨setVal v es j, c, by rw [T.get_set, if_pos rfl], s1, by rw [s2]; exact h3, fun e he => ?_⟩, hlt⟩, rfl, ⟨Nat.le_refl _, fun b hb hn => by
   rw [T.get_set, if_neg (fun e => hn (by rw [e]; simp))]⟩, rfl⟩
  have : e.2.2 ∈ es.map (·.2.2):= by rw [← s2]; exact List.mem_map_of_mem he
  obtain ⟨e', he', q⟩ := List.mem_map.1 this
  rw [← q]; exact h4 e' he'
theorem delete_k (ht : P.underlying t = some (.map kt elem)) (hk : KeyT P kt enc) (hm : MapK enc h r L) (k : κ) :
  ∃ h', deleteA P t (.map r) (enc k) h = some h' ∧ MapK enc h' r (mapDel k L) ∧ h'.nx = h.nx ∧ Only h h' [r] ∧ h'.g = h.g := by
 obtain ⟨es, c, h1, h2, h3, h4⟩ := hm.has
 have hlt := hm.lt
 cases hp : posK k L 0 with
 | none =>
  refine ⟨h, by unfold deleteA; simp only [ht, hk.kv k, h1, find_pos hk k 0 h2, hp], ?_, rfl, ⟨Nat.le_refl _, fun _ _ _ => rfl⟩, rfl⟩
  rw [del_no k hp]; exact hm
 | some x =>
  obtain ⟨j, w⟩ := x
  have s1 := del_at k h2 hp
  rw [Nat.sub_zero] at s1
  refine ⟨{ h with t := h.t.set r (some (.map (es.eraseIdx j) c)) }, by unfold deleteA; simp only [ht, hk.kv k, h1, find_pos hk k 0 h2, hp], ⟨⟨es.eraseIdx j, c, by rw [T.get_set, if_pos rfl], s1, ?_, fun e he => h4 e (List.mem_of_mem_eraseIdx he)⟩, hlt⟩, rfl, ⟨Nat.le_refl _, fun b hb hn => by
   rw [T.get_set, if_neg (fun e => hn (by rw [e]; simp))]⟩, rfl⟩
  exact h3.sublist ((List.eraseIdx_sublist es j).map _)
theorem bi_delete_k (ht : P.underlying t = some (.map kt elem)) (hk : KeyT P kt enc) (hm : MapK enc h r L) (k : κ) (ts : List TypeId) (xs : List AV) :
  ∃ h', builtinA P .delete (t :: ts) (.map r :: enc k :: xs) h = .val und h' ∧ MapK enc h' r (mapDel k L) ∧ h'.nx = h.nx ∧ Only h h' [r] ∧ h'.g = h.g := by
 obtain ⟨h', e, q⟩ := delete_k ht hk hm k
 exact ⟨h', by simp only [builtinA, e], q⟩
theorem newMap (h : H) (enc : κ → AV) : MapK enc (h.alloc (.map [] 0)) h.nx [] := ⟨⟨[], 0, by unfold H.alloc; rw [T.get_set, if_pos rfl], rfl, List.nodup_nil, fun e he => by cases he⟩, Nat.lt_succ_self _⟩
end
theorem keyT_str {P : Program} {kt : TypeId} (hu : P.underlying kt = some .string) : KeyT P kt (fun s : List Nat => .str s) where
 kv k:= by unfold keyV; simp only [hu]
 eq a b := by
  unfold keyEq eqA
  simp only [hu]
  congr 1
  rw [Bool.eq_iff_iff, decide_eq_true_iff]
  exact listEqB_iff a b
 sm a := by
  unfold sameV same1
  exact (listEqB_iff a a).2 rfl
end
end Go.AX

namespace Go.AX
noncomputable section
open Go.RowKit
section
variable {κ : Type} {enc : κ → AV}
structure RngK (enc : κ → AV) (h : H) (it r : Nat) (L V R : List (κ × AV)) : Prop where
 has : ∃ es clock seen, mapOf (h.t.get r) = some (es, clock) ∧ es.map entP = L.map (encP enc) ∧ (es.map (·.2.2)).Nodup ∧ (∀ e, e ∈ es → e.2.2 < clock) ∧ h.t.get it = some (.mapIter (some r) clock seen clock) ∧
  (es.filter fun e => notIn seen e.2.2).map entP = R.map (encP enc)
 pm : (V ++ R).Perm L
 lt : it < h.nx
 ltr : r < h.nx
theorem RngK.get {h h' : H} {it r : Nat} {L V R : List (κ × AV)} (k : RngK enc h it r L V R) (hx : h.nx ≤ h'.nx) (e1 : h'.t.get it = h.t.get it) (e2 : h'.t.get r = h.t.get r) : RngK enc h' it r L V R :=
 ⟨by obtain ⟨es, c, s, a, b, c', d, e, f⟩ := k.has; exact ⟨es, c, s, by rw [e2]; exact a, b, c', d, by rw [e1]; exact e, f⟩, k.pm, Nat.lt_of_lt_of_le k.lt hx, Nat.lt_of_lt_of_le k.ltr hx⟩
theorem RngK.keep {h h' : H} {it r : Nat} {L V R : List (κ × AV)} (k : RngK enc h it r L V R) {S : List Nat} (o : Only h h' S) (h1 : it ∉ S) (h2 : r ∉ S) : RngK enc h' it r L V R := k.get o.1 (o.2 it k.lt h1) (o.2 r k.ltr h2)
structure MapR (enc : κ → AV) (h : H) (r : Nat) (L : List (κ × AV)) : Prop where
 has : ∃ es clock, mapOf (h.t.get r) = some (es, clock) ∧ es.map entP = L.map (encP enc) ∧ (es.map (·.2.2)).Nodup ∧ ∀ e, e ∈ es → e.2.2 < clock
 lt : r < h.nx
theorem MapK.ro [DecidableEq κ] {h : H} {r : Nat} {L : List (κ × AV)} (m : MapK enc h r L) : MapR enc h r L := by
 obtain ⟨es, c, h1, h2, h3, h4⟩ := m.has
 exact ⟨⟨es, c, by rw [h1]; rfl, h2, h3, h4⟩, m.lt⟩
variable {P : Program}
theorem range_r {h : H} {r : Nat} {L : List (κ × AV)} (m : MapR enc h r L) {t kt elem : TypeId} (ht : P.underlying t = some (.map kt elem)) :
  ∃ h', rangeA P t (.map r) h = .val (.ptr h.nx 0) h' ∧ RngK enc h' h.nx r L [] L ∧ h'.nx = h.nx + 1 ∧ Only h h' [] ∧ h'.g = h.g := by
 obtain ⟨es, c, h1, h2, h3, h4⟩ := m.has
 have hlt := m.lt
 have ho : Only h (h.alloc (.mapIter (some r) c [] c)) [] := ⟨Nat.le_succ _, fun b hb _ => by
  show (h.t.set h.nx _).get b = _
  rw [T.get_set, if_neg (by omega)]⟩
 refine ⟨h.alloc (.mapIter (some r) c [] c), by unfold rangeA; simp only [ht, h1], ⟨⟨es, c, [], by rw [ho.2 r hlt (by simp)]; exact h1, h2, h3, h4, ?_, ?_⟩, by simp, Nat.lt_succ_self _, Nat.lt_succ_of_lt hlt⟩, rfl, ho, rfl⟩
 ·show (h.t.set h.nx _).get h.nx = _
  rw [T.get_set, if_pos rfl]
 ·rw [← h2]
  congr 1
  exact List.filter_eq_self.2 fun e _ => rfl
theorem range_k {h : H} {r : Nat} {L : List (κ × AV)} [DecidableEq κ] (m : MapK enc h r L) {t kt elem : TypeId} (ht : P.underlying t = some (.map kt elem)) :
  ∃ h', rangeA P t (.map r) h = .val (.ptr h.nx 0) h' ∧ RngK enc h' h.nx r L [] L ∧ h'.nx = h.nx + 1 ∧ Only h h' [] ∧ h'.g = h.g := range_r m.ro ht
theorem beqF (x b : Nat) : Nat.beq x b = decide (x = b) := by
 cases q : Nat.beq x b with
 | true => have := Nat.eq_of_beq_eq_true q; simp [this]
 | false => have := Nat.ne_of_beq_eq_false q; simp [this]
theorem notIn_app (s : List Nat) (x b : Nat) : notIn (s ++ [b]) x = (notIn s x && !Nat.beq x b) := by
 rw [notIn_eq, notIn_eq, beqF, Bool.eq_iff_iff]
 simp [List.mem_append, not_or]
theorem findStamp_at : ∀ {es : List (AV × AV × Nat)} {e : AV × AV × Nat}, e ∈ es → (es.map (·.2.2)).Nodup → findStamp e.2.2 es = some (.tuple [e.1, e.2.1])
 | [], e, he, _ => by cases he
 | a :: es, e, he, hn => by
  rw [List.map_cons, List.nodup_cons] at hn
  unfold findStamp
  rcases List.mem_cons.1 he with rfl | he
  ·rw [Nat.beq_refl]
  ·have : Nat.beq a.2.2 e.2.2 = false := by
    cases q : Nat.beq a.2.2 e.2.2 with
    | false => rfl
    | true =>
     have := Nat.eq_of_beq_eq_true q
     exact absurd (by rw [this]; exact List.mem_map_of_mem he) hn.1
   rw [this]
   exact findStamp_at he hn.2
theorem lastOf_app : ∀ (l : List Nat) (b : Nat), lastOf (l ++ [b]) = some b
 | [], b => rfl
 | x :: l, b => by
  have ih := lastOf_app l b
  cases l with
  | nil => rfl
  | cons y l => exact ih
theorem next_k {h : H} {it r : Nat} {L V R : List (κ × AV)} (k : RngK enc h it r L V R) :
  ∃ C, nextL (.ptr it 0) h = some C ∧ ∀ y, y ∈ C → (R = [] ∧ y = (.tuple [.bool false], h)) ∨
   ∃ p R1 R2, R = R1 ++ p :: R2 ∧ y.1 = .tuple [.bool true, enc p.1, p.2] ∧ RngK enc y.2 it r L (V ++ [p]) (R1 ++ R2) ∧ y.2.nx = h.nx ∧ Only h y.2 [it] ∧ y.2.g = h.g ∧
    ∀ h2, h2.t.get it = y.2.t.get it → h2.t.get r = y.2.t.get r → entryA (.ptr it 0) h2 = some (.tuple [enc p.1, p.2]) := by
 obtain ⟨es, clock, seen, h1, h2, h3, h4, h5, h6⟩ := k.has
 have hne : r ≠ it := by
  intro e; subst e; rw [h5] at h1; cases h1
 have hall : ((es.all fun e => Nat.blt e.2.2 clock) && Nat.ble clock clock) = true := by
  rw [Bool.and_eq_true]
  refine ⟨List.all_eq_true.2 fun e he => ?_, Nat.ble_self_eq_true _⟩
  rw [Nat.blt_eq]; exact h4 e he
 obtain ⟨F, hF⟩ : ∃ F, F = es.filter fun e => notIn seen e.2.2 := ⟨_, rfl⟩
 rw [← hF] at h6
 cases hc : F with
 | nil =>
  refine ⟨[(.tuple [.bool false], h)], ?_, fun y hy => .inl ⟨?_, List.mem_singleton.1 hy⟩⟩
  ·unfold nextL
   simp only [h5, h1, hall, ← hF, hc]
  ·rw [hc] at h6; exact List.map_eq_nil_iff.1 h6.symm
 | cons u us =>
  refine ⟨F.map fun e => (.tuple [.bool true, e.1, e.2.1], { h with t := h.t.set it (some (.mapIter (some r) clock (seen ++ [e.2.2]) clock)) }), ?_, fun y hy => .inr ?_⟩
  ·unfold nextL
   simp only [h5, h1, hall, ← hF, hc]
  ·obtain ⟨e, he, rfl⟩ := List.mem_map.1 hy
   obtain ⟨F1, F2, hF12⟩ := List.append_of_mem he
   have hees : e ∈ es:= by rw [hF] at he; exact (List.mem_filter.1 he).1
   have hsub : (F.map (·.2.2)).Nodup:= by rw [hF]; exact h3.sublist (List.filter_sublist.map _)
   rw [hF12, List.map_append, List.map_cons] at h6
   obtain ⟨R1, R', hR, q1, q2⟩ := List.map_eq_append_iff.1 h6.symm
   obtain ⟨p, R2, hR', q3, q4⟩ := List.map_eq_cons_iff.1 q2
   subst hR'
   have e1 : e.1 = enc p.1 := (congrArg Prod.fst q3).symm
   have e2 : e.2.1 = p.2 := (congrArg Prod.snd q3).symm
   have ho : Only h { h with t := h.t.set it (some (.mapIter (some r) clock (seen ++ [e.2.2]) clock)) } [it] := ⟨Nat.le_refl _, fun b _ hn => by rw [T.get_set, if_neg (by simpa using hn)]⟩
   have hg1 : ∀ x, mapOf ((h.t.set it (some x)).get r) = some (es, clock) := fun x => by rw [T.get_set, if_neg hne]; exact h1
   have hg2 : ∀ x, (h.t.set it (some x)).get it = some x := fun x => by rw [T.get_set, if_pos rfl]
   have hfil : (es.filter fun x => notIn (seen ++ [e.2.2]) x.2.2) = F1 ++ F2 := by
    have a1 : (es.filter fun x => notIn (seen ++ [e.2.2]) x.2.2) = F.filter fun x => !Nat.beq x.2.2 e.2.2 := by
     rw [hF, List.filter_filter]
     congr 1
     funext x
     rw [notIn_app, Bool.and_comm]
    rw [a1, hF12, List.filter_append, List.filter_cons]
    rw [hF12, List.map_append, List.map_cons, List.nodup_append, List.nodup_cons] at hsub
    have b1 : F1.filter (fun x => !Nat.beq x.2.2 e.2.2) = F1 := List.filter_eq_self.2 fun x hx => by
     have : x.2.2 ≠ e.2.2 := hsub.2.2 x.2.2 (List.mem_map_of_mem hx) e.2.2 (by simp)
     rw [beqF]; simp [this]
    have b2 : F2.filter (fun x => !Nat.beq x.2.2 e.2.2) = F2 := List.filter_eq_self.2 fun x hx => by
     have : x.2.2 ≠ e.2.2 := fun q => hsub.2.1.1 (by rw [← q]; exact List.mem_map_of_mem hx)
     rw [beqF]; simp [this]
    rw [b1, b2, Nat.beq_refl]
    rfl
   refine ⟨p, R1, R2, hR, by rw [← e1, ← e2], ⟨⟨es, clock, seen ++ [e.2.2], hg1 _, h2, h3, h4, hg2 _, ?_⟩, ?_, k.lt, k.ltr⟩, rfl, ho, rfl, fun hh g1 g2 => ?_⟩
   ·rw [hfil, List.map_append, List.map_append, q1, q4]
   ·refine List.Perm.trans ?_ k.pm
    rw [hR, List.append_assoc]
    refine List.Perm.append_left V ?_
    rw [List.singleton_append]
    exact List.perm_middle.symm
   ·rw [hg2] at g1
    have g2 := (congrArg mapOf g2).trans (hg1 _)
    unfold entryA
    simp only [g1, g2, lastOf_app, Nat.beq_refl, findStamp_at hees h3, e1, e2]
variable {nt : Nat} {tm : T AV} {h : H}
theorem pick_k {ops : Array Oper} {o : Oper} {l : List Oper} {Q : T AV → H → Prop} {t : Tmp} {it r : Nat} {L V R : List (κ × AV)} (hg : o.guard = none) (hop : o.op = .next (.tmp t) false) (ht : tm.get t = some (.ptr it 0)) (k : RngK enc h it r L V R)
  (h0 : R = [] → opsW P nt ops l (putT nt tm o.dst (.tuple [.bool false])) h Q)
  (h1 : ∀ p R1 R2 h2, R = R1 ++ p :: R2 → RngK enc h2 it r L (V ++ [p]) (R1 ++ R2) → h2.nx = h.nx → Only h h2 [it] → h2.g = h.g → (∀ h3, h3.t.get it = h2.t.get it → h3.t.get r = h2.t.get r → entryA (.ptr it 0) h3 = some (.tuple [enc p.1, p.2])) →
   opsW P nt ops l (putT nt tm o.dst (.tuple [.bool true, enc p.1, p.2])) h2 Q) : pickW P nt ops (o :: l) tm h Q := by
 obtain ⟨C, hC, hall⟩ := next_k k
 refine ⟨hg, C, ?_, fun y hy => ?_⟩
 ·rw [hop]
  unfold pickA
  have : evalA tm (.tmp t) = some (.ptr it 0):= by unfold evalA; simp only [ht]
  simp only [this]
  exact hC
 ·rcases hall y hy with ⟨a, rfl⟩ | ⟨p, R1, R2, a, b, c, d, e, f, g⟩
  ·exact h0 a
  ·rw [b]; exact h1 p R1 R2 y.2 a c d e f g
theorem ex_range (t : TypeId) (x : Operand) : execA P tm h (.range t x) = ob (evalA tm x) fun v => rangeA P t v h := by
 simp only [execA]
 cases evalA tm x <;> rfl
theorem ex_entry (x : Operand) : execA P tm h (.entry x) = ob (evalA tm x) fun v => ob (entryA v h) fun v => .val v h := by
 simp only [execA]
 cases evalA tm x with
 | none => rfl
 | some v => show optV h (entryA v h) = ob (entryA v h) _; cases entryA v h <;> rfl
end
structure StopC (p : Prop) : Prop where
 go : p
theorem stopC {P : Program} {fn nt : Nat} {ro : Option Nat} {c : Code} (rp : List Nat) {ds : List Nat} {tm : T AV} {h : H} {Q : KQ} (hw : StopC (codeW P fn nt ro (codeI c rp) ds tm h Q)) : codeW P fn nt ro (codeI c rp) ds tm h Q := hw.go
def pk1F (P : Program) (nt : Nat) (ds : List Nat) (tm : T AV) (h : H) (Q : KQ) : Code → Prop
 | .region _ ops false => Hold (pickW P nt ops ops.toList tm h (Q .norm ds))
 | _ => False
theorem pk1 {P : Program} {fn nt : Nat} {ro : Option Nat} {c : Code} {rp : List Nat} {ds : List Nat} {tm : T AV} {h : H} {Q : KQ} (hw : pk1F P nt ds tm h Q (codeI c rp)) : codeW P fn nt ro (codeI c rp) ds tm h Q := by
 cases e : codeI c rp with
 | region i ops d =>
  rw [e] at hw
  cases d with
  | false => exact .inr hw.h
  | true => exact absurd hw id
 | _ => rw [e] at hw; exact absurd hw id
end
end Go.AX

namespace Go.AX
noncomputable section
open Go.RowKit
section
variable {P : Program}
end
end
end Go.AX

namespace Go.AX
noncomputable section
open Go.RowKit
section
variable {P : Program} {h : H} {tm : T AV}
theorem ex_sl_h (t : TypeId) (x a : Operand) : execA P tm h (.slice t x none (some a) none) = ob (evalA tm x) fun v => ob (evalA tm a) fun l => ob (sliceA P t v none (some l) none) fun v => .val v h := by
 simp only [execA, evalO]
 cases evalA tm x with
 | none => cases evalA tm a <;> rfl
 | some v =>
  cases evalA tm a with
  | none => rfl
  | some l => simp only [ob]; cases sliceA P t v none (some l) none <;> rfl
theorem ble_t {a b : Nat} (h : a ≤ b) : Nat.ble a b = true:= by rw [Nat.ble_eq]; exact h
theorem ble_f {a b : Nat} (h : b < a) : Nat.ble a b = false:= by rw [← Bool.not_eq_true, Nat.ble_eq]; omega
def RowB (h : H) (b m size ty : Nat) (cs : List AV) : Prop := b < h.nx ∧ ∃ t, h.t.get b = some (.cells m t ⟨size, ty⟩ false) ∧ ∀ j, j < cs.length → t.get j = cs[j]?
theorem RowB.row {b m size ty : Nat} {cs : List AV} (hr : RowB h b m size ty cs) {o n : Nat} (hn : o + n ≤ cs.length) (h0 : 0 < n) : h.row b o n = some ((cs.drop o).take n) := by
 obtain ⟨-, t, hg, ht⟩ := hr
 have hl : ((cs.drop o).take n).length = n:= by rw [List.length_take, List.length_drop]; omega
 have hne : (cs.drop o).take n ≠ [] := fun e => by rw [e] at hl; simp at hl; omega
 have := row_ok (h := h) (b := b) (o := o) (cs := (cs.drop o).take n) (fun i hi => by
  unfold cellAt; rw [hg]
  simp only
  rw [ht _ (by omega), List.getElem?_take, if_pos (by omega), List.getElem?_drop]) hne
 rwa [hl] at this
theorem exW_xgrow {elem : TypeId} {size b o n q c : Nat} {old new : List AV} {K : AV → H → Prop} (hq : c < n + q) (hl : new.length = q * size) (hs : n + q ≤ 4194304) (hr : h.row b o (n * size) = some old)
  (hk : K (.slice h.nx 0 (n + q) (.opn 0)) (h.grown none ⟨size, elem + 1⟩ (old ++ new))) : exW P (appendN elem size (.slice b o n (.exact c)) q new h) K := by
 have e1 : Nat.beq (lenL new) (q * size) = true:= by rw [lenL_eq, hl, Nat.beq_refl]
 have e2 : small (n + q) = true:= by unfold small; exact ble_t hs
 have : appendN elem size (.slice b o n (.exact c)) q new h = .val (.slice h.nx 0 (n + q) (.opn 0)) (h.grown none ⟨size, elem + 1⟩ (old ++ new)) := by
  unfold appendN; simp only [e1, ble_f hq, e2, hr]
 rw [this]; exact hk
theorem grown_none {k : EK} {l : List AV} (b : Nat) : (h.grown none k l).t.get b = if b = h.nx then some (.cells l.length (T.ofRow l) k false) else h.t.get b := by
 by_cases q : b = h.nx
 ·subst q; rw [if_pos rfl, grownL_new]
 ·rw [if_neg q]; unfold H.grown; simp only [T.get_set]; rw [if_neg q]
theorem grown_only {k : EK} {l : List AV} : Only h (h.grown none k l) [] := ⟨by rw [grownL_nx]; omega, fun b hb _ => by rw [grown_none, if_neg (by omega)]⟩
end
end
end Go.AX

namespace Go.AX
noncomputable section
open Go.RowKit
section
variable {P : Program} {size : Nat}
theorem bi_append_0 {h : H} {t u e : TypeId} {info : TypeInfo} {u' : TypeDesc} (hu : P.underlying t = some (.slice e)) (hu2 : P.underlying u = some u') (hn : ∀ k, u' ≠ .int k) (hi : P.info? e = some info) (hk : appendOk P e info = true)
  (s : AV) (ts : List TypeId) (xs : List AV) : builtinA P .append (t :: u :: ts) (s :: .slice0 :: xs) h = appendN e info.size s 0 [] h := by
 cases u' with
 | int k => exact absurd rfl (hn k)
 | _ => simp only [builtinA, hu, hu2, appendA, hi, lenOfA, hk, srcA]
theorem appendN_0 {h : H} {e size base : Nat} {l0 : AV} {n0 : Nat} {cs0 : List AV} (hg : Grows size base h l0 n0 cs0) : appendN e size l0 0 [] h = .val l0 h := by
 unfold appendN
 rw [Nat.zero_mul]
 cases hg with
 | none => rfl
 | cell => rfl
theorem put_g {h h' : H} {b o : Nat} {l : List AV} (e : h.put b o l = some h') : h'.g = h.g := by
 unfold H.put at e
 repeat' (split at e)
 all_goals (first | (cases e; done) | (cases e; rfl))
theorem appendN_g {e size n : Nat} {s : AV} {new : List AV} {h h' : H} {v : AV} (hx : appendN e size s n new h = .val v h') : h'.g = h.g := by
 unfold appendN at hx
 repeat' (split at hx)
 all_goals (first | (cases hx; done) | (cases hx; rfl) | (rename_i hp; cases hx; exact put_g hp))
theorem Grows.wk {size a b : Nat} {h : H} {v : AV} {n : Nat} {cs : List AV} (hg : Grows size b h v n cs) (hab : a ≤ b) : Grows size a h v n cs := by
 cases hg with
 | none => exact .none
 | cell c n cs t ty h1 h2 h3 h4 h5 => exact .cell c n cs t ty (Nat.le_trans hab h1) h2 h3 h4 h5
theorem exW_growsG {elem : TypeId} {size base : Nat} {h : H} {v : AV} {n m : Nat} {cs new : List AV} {K : AV → H → Prop} (hg : Grows size base h v n cs) (hb : base ≤ h.nx) (hm : 0 < m) (hs : 0 < size) (hl : new.length = m * size) (hsm : n + m ≤ 4194304)
  (hk : ∀ v' h', Grows size base h' v' (n + m) (cs ++ new) → h'.nx = h.nx + 1 → (∀ b, b < h.nx → blkOf v ≠ some b → h'.t.get b = h.t.get b) → blkOf v' = some h.nx → h'.g = h.g → K v' h') : exW P (appendN elem size v m new h) K := by
 obtain ⟨v', h', e, a, b, c, d⟩ := appendN_grows (elem := elem) hg hb hm hs hl hsm
 have g := appendN_g e
 rw [e]; exact hk v' h' a b c d g
@[reducible] def AppTo (size base : Nat) (h : H) (l0 : AV) (n : Nat) (cs : List AV) (K : AV → H → Prop) : Prop :=
 ∀ v' h', Grows size base h' v' n cs → h.nx ≤ h'.nx → (∀ b, b < h.nx → blkOf l0 ≠ some b → h'.t.get b = h.t.get b) → (∀ b, blkOf v' = some b → blkOf l0 = some b ∨ h.nx ≤ b) → h'.g = h.g → K v' h'
theorem app_none {t e : TypeId} (hu : P.underlying t = some (.slice e)) (hi : infoOk P e size = true) {base : Nat} {h : H} {l0 : AV} {n0 : Nat} {cs0 : List AV} (hg : Grows size base h l0 n0 cs0) {v2 : AV} (hv : v2 = .nilslice ∨ v2 = .slice0) {K : AV → H → Prop} (hk : AppTo size base h l0 n0 cs0 K) :
  exW P (builtinA P .append [t, t] [l0, v2] h) K := by
 unfold infoOk at hi
 split at hi
 ·rename_i info hinfo
  rw [Bool.and_eq_true] at hi
  have e2 := Nat.eq_of_beq_eq_true hi.2
  have : builtinA P .append [t, t] [l0, v2] h = .val l0 h := by
   rcases hv with rfl | rfl
   ·rw [bi_append_nil hu hu (fun k h => by cases h) hinfo hi.1, e2]; exact appendN_0 hg
   ·rw [bi_append_0 hu hu (fun k h => by cases h) hinfo hi.1, e2]; exact appendN_0 hg
  rw [this]
  exact hk l0 h hg (Nat.le_refl _) (fun _ _ _ => rfl) (fun _ e => .inl e) rfl
 ·cases hi
theorem app_some (hs0 : 0 < size) {t e : TypeId} (hu : P.underlying t = some (.slice e)) (hi : infoOk P e size = true) {base : Nat} {h : H} {l0 : AV} {n0 : Nat} {cs0 : List AV} (hg : Grows size base h l0 n0 cs0) (hb : base ≤ h.nx) {b o k : Nat} {c : Cap} {new : List AV} (hr : h.row b o (k * size) = some new) (hl : new.length = k * size) (hk0 : 0 < k) (hsm : n0 + k ≤ 4194304)
  {K : AV → H → Prop} (hk : AppTo size base h l0 (n0 + k) (cs0 ++ new) K) : exW P (builtinA P .append [t, t] [l0, .slice b o k c] h) K := by
 rw [bi_append2 hu hu (fun k h => by cases h) hi, hr]
 exact exW_growsG hg hb hk0 hs0 hl hsm fun v' h' g x old bl gg => hk v' h' g (by omega) old (fun b e => by rw [bl] at e; cases e; exact .inr (Nat.le_refl _)) gg
theorem app_zero {t e : TypeId} (hu : P.underlying t = some (.slice e)) (hi : infoOk P e size = true) {base : Nat} {h : H} {l0 : AV} {n0 : Nat} {cs0 : List AV} (hg : Grows size base h l0 n0 cs0) {b o : Nat} {c : Cap} (hr : h.row b o 0 = some [])
  {K : AV → H → Prop} (hk : AppTo size base h l0 n0 cs0 K) : exW P (builtinA P .append [t, t] [l0, .slice b o 0 c] h) K := by
 rw [bi_append2 hu hu (fun k h => by cases h) hi, Nat.zero_mul, hr]
 show exW P (appendN e size l0 0 [] h) K
 rw [appendN_0 hg]
 exact hk l0 h hg (Nat.le_refl _) (fun _ _ _ => rfl) (fun _ e => .inl e) rfl
theorem grow_rowB {base : Nat} {h : H} {b n : Nat} {cs : List AV} {t : T AV} {ty : Nat} (h2 : b < h.nx) (h4 : h.t.get b = some (.cells (n * size) t ⟨size, ty⟩ false)) (h5 : ∀ j, t.get j = cs[j]?) : RowB h b (n * size) size ty cs := ⟨h2, t, h4, fun j _ => h5 j⟩
theorem row_zero {h : H} {b m sz ty : Nat} {cs : List AV} (hr : RowB h b m sz ty cs) (o : Nat) : h.row b o 0 = some [] := by
 obtain ⟨-, t, hg, -⟩ := hr
 unfold H.row; rw [hg]; simp only [loadRow_eq]; rfl
theorem app_row (hs0 : 0 < size) {t e : TypeId} (hu : P.underlying t = some (.slice e)) (hi : infoOk P e size = true) {base b2 : Nat} {h : H} {l0 s : AV} {n0 n : Nat} {cs0 cs : List AV} (hg : Grows size base h l0 n0 cs0) (hs : Grows size b2 h s n cs) (hb : base ≤ h.nx) (hz : n0 + n ≤ 4194304)
  {K : AV → H → Prop} (hk : AppTo size base h l0 (n0 + n) (cs0 ++ cs) K) : exW P (builtinA P .append [t, t] [l0, s] h) K := by
 cases hs with
 | none => exact app_none hu hi hg (.inl rfl) (by simpa using hk)
 | cell b n cs t' ty h1 h2 h3 h4 h5 =>
  have hr := grow_rowB (base := b2) h2 h4 h5
  rcases Nat.eq_zero_or_pos n with rfl | q
  ·have : cs = [] := List.length_eq_zero_iff.1 (by simpa using h3)
   subst this
   exact app_zero hu hi hg (row_zero hr 0) (by simpa using hk)
  ·have m2 : 0 < n * size := Nat.mul_pos q hs0
   have hrow := hr.row (o := 0) (n := n * size) (by omega) m2
   rw [List.drop_zero, List.take_of_length_le (by omega)] at hrow
   exact app_some hs0 hu hi hg hb hrow (by omega) q (by omega) hk
theorem Grows.wr {base : Nat} {h : H} {b n : Nat} {cap : Cap} {cs : List AV} (hg : Grows size base h (.slice b 0 n cap) n cs) : wrAt h b = true := by
 cases hg with
 | cell b n cs t' ty h1 h2 h3 h4 h5 => unfold wrAt; rw [h4]
end
end
end Go.AX

namespace Go.AX
noncomputable section
open Go.RowKit
end
end Go.AX

namespace Go.Proofs.Ytnedigoajoflaaa.M
open Go Go.AX
noncomputable section
set_option maxRecDepth 100000
noncomputable abbrev P : Program := Try.prog
theorem cf5 (first cap args : List AV) (h : H) : callV P (.func 5 first cap) args h = .enter 5 (first ++ args ++ cap) h := callV_func 5 (by kernel_rfl) first cap args
theorem u23 : P.underlying 23 = some (.pointer 47):= by kernel_rfl
theorem eq23 (h : H) (x y : Operand) (b o : Nat) : binR P h .eql 23 x y (.ptr b o) .nilptr = .val (.bool false) h := b_eqlPn u23 b o
theorem ok31 : okT P 31 = true:= by kernel_rfl
theorem ld31 (h : H) (b o : Nat) : loadV P h 31 b o = aggO (seqO [cellAt h b o, cellAt h b (o + 1), cellAt h b (o + 2), cellAt h b (o + 3), cellAt h b (o + 4), cellAt h b (o + 5), cellAt h b (o + 6), cellAt h b (o + 7)]) := ld_agg (k := 7) (by kernel_rfl) (by kernel_rfl) b o
theorem z31 : zeroA P 31 = some (.agg [(.int .i64 (.ofNat 0)), (.int .u64 (.ofNat 0)), (.int .u64 (.ofNat 0)), (.bool false), .nilslice, .nilslice, .nilslice, (.int .u64 (.ofNat 0))]):= by kernel_rfl
theorem st31 (h : H) (l : List AV) (hl : l.length = 8) (b o : Nat) : storeV P h 31 b o (.agg l) = h.put b o l := storeV_agg (by kernel_rfl) hl b o
theorem cf9 (first cap args : List AV) (h : H) : callV P (.func 9 first cap) args h = .enter 9 (first ++ args ++ cap) h := callV_func 9 (by kernel_rfl) first cap args
theorem cf12 (first cap args : List AV) (h : H) : callV P (.func 12 first cap) args h = .enter 12 (first ++ args ++ cap) h := callV_func 12 (by kernel_rfl) first cap args
theorem cv5_3 (j : IntKind) (n : Int) (h : H) : convR P 5 3 (.int j n) h = .val (.int .i64 (wrapF .i64 n)) h := conv_int (u := .int .u8) (by kernel_rfl) (by kernel_rfl) j n
theorem u3 : P.underlying 3 = some (.int .i64):= by kernel_rfl
theorem fa47_1 (b o : Nat) : fieldAddrA P 47 (.ptr b o) 1 = some (.ptr b (o + 1)):= by kernel_rfl
theorem ok27 : okT P 27 = true:= by kernel_rfl
theorem ld27 (h : H) (b o : Nat) : loadV P h 27 b o = cellAt h b o := loadV_one (by kernel_rfl) h b o
theorem fa47_0 (b o : Nat) : fieldAddrA P 47 (.ptr b o) 0 = some (.ptr b o):= by kernel_rfl
theorem ok45 : okT P 45 = true:= by kernel_rfl
theorem ld45 (h : H) (b o : Nat) : loadV P h 45 b o = cellAt h b o := loadV_one (by kernel_rfl) h b o
theorem u45 : P.underlying 45 = some (.slice 94):= by kernel_rfl
theorem cf13 (first cap args : List AV) (h : H) : callV P (.func 13 first cap) args h = .enter 13 (first ++ args ++ cap) h := callV_func 13 (by kernel_rfl) first cap args
theorem ia43 (b o len : Nat) (cap : Cap) (kd : IntKind) (i : Nat) : indexAddrA P 43 (.slice b o len cap) (.int kd (.ofNat i)) = if i < len then some (.ptr b (o + i * 4)) else none := indexAddr_slice (e := 51) (by kernel_rfl) (by kernel_rfl) (by kernel_rfl) b o len cap kd i
theorem ok51 : okT P 51 = true:= by kernel_rfl
theorem ld51 (h : H) (b o : Nat) : loadV P h 51 b o = aggO (seqO [cellAt h b o, cellAt h b (o + 1), cellAt h b (o + 2), cellAt h b (o + 3)]) := ld_agg (k := 3) (by kernel_rfl) (by kernel_rfl) b o
theorem cf14 (first cap args : List AV) (h : H) : callV P (.func 14 first cap) args h = .enter 14 (first ++ args ++ cap) h := callV_func 14 (by kernel_rfl) first cap args
theorem z38 : zeroA P 38 = some (.agg [(.int .i64 (.ofNat 0)), (.int .u64 (.ofNat 0)), (.int .u64 (.ofNat 0)), (.bool false), .nilslice, (.int .u32 (.ofNat 0)), (.int .u64 (.ofNat 0)), (.int .u64 (.ofNat 0)), (.int .i64 (.ofNat 0))]):= by kernel_rfl
theorem ok38 : okT P 38 = true:= by kernel_rfl
theorem st38 (h : H) (l : List AV) (hl : l.length = 9) (b o : Nat) : storeV P h 38 b o (.agg l) = h.put b o l := storeV_agg (by kernel_rfl) hl b o
theorem fa38_1 (b o : Nat) : fieldAddrA P 38 (.ptr b o) 1 = some (.ptr b (o + 1)):= by kernel_rfl
theorem fa38_2 (b o : Nat) : fieldAddrA P 38 (.ptr b o) 2 = some (.ptr b (o + 2)):= by kernel_rfl
theorem fa47_2 (b o : Nat) : fieldAddrA P 47 (.ptr b o) 2 = some (.ptr b (o + 2)):= by kernel_rfl
theorem cf15 (first cap args : List AV) (h : H) : callV P (.func 15 first cap) args h = .enter 15 (first ++ args ++ cap) h := callV_func 15 (by kernel_rfl) first cap args
theorem u44 : P.underlying 44 = some (.slice 55):= by kernel_rfl
theorem ia44 (b o len : Nat) (cap : Cap) (kd : IntKind) (i : Nat) : indexAddrA P 44 (.slice b o len cap) (.int kd (.ofNat i)) = if i < len then some (.ptr b (o + i * 5)) else none := indexAddr_slice (e := 55) (by kernel_rfl) (by kernel_rfl) (by kernel_rfl) b o len cap kd i
theorem fa55_0 (b o : Nat) : fieldAddrA P 55 (.ptr b o) 0 = some (.ptr b o):= by kernel_rfl
theorem ok9 : okT P 9 = true:= by kernel_rfl
theorem ld9 (h : H) (b o : Nat) : loadV P h 9 b o = cellAt h b o := loadV_one (by kernel_rfl) h b o
theorem ok55 : okT P 55 = true:= by kernel_rfl
theorem ld55 (h : H) (b o : Nat) : loadV P h 55 b o = aggO (seqO [cellAt h b o, cellAt h b (o + 1), cellAt h b (o + 2), cellAt h b (o + 3), cellAt h b (o + 4)]) := ld_agg (k := 4) (by kernel_rfl) (by kernel_rfl) b o
theorem cf16 (first cap args : List AV) (h : H) : callV P (.func 16 first cap) args h = .enter 16 (first ++ args ++ cap) h := callV_func 16 (by kernel_rfl) first cap args
theorem u56 : P.underlying 56 = some (.slice 61):= by kernel_rfl
theorem ia56 (b o len : Nat) (cap : Cap) (kd : IntKind) (i : Nat) : indexAddrA P 56 (.slice b o len cap) (.int kd (.ofNat i)) = if i < len then some (.ptr b (o + i * 13)) else none := indexAddr_slice (e := 61) (by kernel_rfl) (by kernel_rfl) (by kernel_rfl) b o len cap kd i
theorem ok61 : okT P 61 = true:= by kernel_rfl
theorem ld61 (h : H) (b o : Nat) : loadV P h 61 b o = aggO (seqO [cellAt h b o, cellAt h b (o + 1), cellAt h b (o + 2), cellAt h b (o + 3), cellAt h b (o + 4), cellAt h b (o + 5), cellAt h b (o + 6), cellAt h b (o + 7), cellAt h b (o + 8), cellAt h b (o + 9), cellAt h b (o + 10), cellAt h b (o + 11), cellAt h b (o + 12)]) := ld_agg (k := 12) (by kernel_rfl) (by kernel_rfl) b o
theorem z61 : zeroA P 61 = some (.agg [(.int .u64 (.ofNat 0)), (.int .u64 (.ofNat 0)), (.bool false), (.str []), (.str []), (.int .u64 (.ofNat 0)), (.int .u64 (.ofNat 0)), (.int .u64 (.ofNat 0)), (.str []), (.str []), (.int .u64 (.ofNat 0)), (.int .u64 (.ofNat 0)), (.int .u64 (.ofNat 0))]):= by kernel_rfl
theorem st61 (h : H) (l : List AV) (hl : l.length = 13) (b o : Nat) : storeV P h 61 b o (.agg l) = h.put b o l := storeV_agg (by kernel_rfl) hl b o
theorem fa61_2 (b o : Nat) : fieldAddrA P 61 (.ptr b o) 2 = some (.ptr b (o + 3)):= by kernel_rfl
theorem fa61_3 (b o : Nat) : fieldAddrA P 61 (.ptr b o) 3 = some (.ptr b (o + 8)):= by kernel_rfl
theorem ex55 (a0 b0 : List Nat) (a1 b1 : List Nat) (a2 b2 : Int) (a3 b3 : Int) (a4 b4 : Int) : eqA P 12 55 (.agg [.str a0, .str a1, .int .u64 a2, .int .u64 a3, .int .u64 a4]) (.agg [.str b0, .str b1, .int .u64 b2, .int .u64 b3, .int .u64 b4]) = andO (some (listEqB a0 b0)) (andO (some (listEqB a1 b1)) (andO (some (a2 == b2)) (andO (some (a3 == b3)) (andO (some (a4 == b4)) (some true))))):= by kernel_rfl
theorem na55 (h : H) (x y : Operand) (a b : List AV) : binR P h .neq 55 x y (.agg a) (.agg b) = neO (eqA P 12 55 (.agg a) (.agg b)) h := b_neqA (by kernel_rfl) a b
theorem fa61_1 (b o : Nat) : fieldAddrA P 61 (.ptr b o) 1 = some (.ptr b (o + 2)):= by kernel_rfl
theorem ok4 : okT P 4 = true:= by kernel_rfl
theorem ld4 (h : H) (b o : Nat) : loadV P h 4 b o = cellAt h b o := loadV_one (by kernel_rfl) h b o
theorem bc47_1 (p1_0 : AV) : buildC P 47 [(1, [p1_0])] = some (.agg [.nilslice, p1_0, (.int .u64 (.ofNat 0))]):= by kernel_rfl
theorem cf17 (first cap args : List AV) (h : H) : callV P (.func 17 first cap) args h = .enter 17 (first ++ args ++ cap) h := callV_func 17 (by kernel_rfl) first cap args
theorem bc66_0 (p0_0 : AV) : buildC P 66 [(0, [p0_0])] = some (.agg [p0_0]):= by kernel_rfl
theorem fa31_4 (b o : Nat) : fieldAddrA P 31 (.ptr b o) 4 = some (.ptr b (o + 4)):= by kernel_rfl
theorem ok28 : okT P 28 = true:= by kernel_rfl
theorem ld28 (h : H) (b o : Nat) : loadV P h 28 b o = cellAt h b o := loadV_one (by kernel_rfl) h b o
theorem u28 : P.underlying 28 = some (.slice 68):= by kernel_rfl
theorem ia28 (b o len : Nat) (cap : Cap) (kd : IntKind) (i : Nat) : indexAddrA P 28 (.slice b o len cap) (.int kd (.ofNat i)) = if i < len then some (.ptr b (o + i * 5)) else none := indexAddr_slice (e := 68) (by kernel_rfl) (by kernel_rfl) (by kernel_rfl) b o len cap kd i
theorem ok68 : okT P 68 = true:= by kernel_rfl
theorem ld68 (h : H) (b o : Nat) : loadV P h 68 b o = aggO (seqO [cellAt h b o, cellAt h b (o + 1), cellAt h b (o + 2), cellAt h b (o + 3), cellAt h b (o + 4)]) := ld_agg (k := 4) (by kernel_rfl) (by kernel_rfl) b o
theorem z68 : zeroA P 68 = some (.agg [(.str []), (.int .i64 (.ofNat 0)), (.int .i64 (.ofNat 0)), (.int .u64 (.ofNat 0)), (.str [])]):= by kernel_rfl
theorem st68 (h : H) (l : List AV) (hl : l.length = 5) (b o : Nat) : storeV P h 68 b o (.agg l) = h.put b o l := storeV_agg (by kernel_rfl) hl b o
theorem fa68_0 (b o : Nat) : fieldAddrA P 68 (.ptr b o) 0 = some (.ptr b o):= by kernel_rfl
theorem u9 : P.underlying 9 = some (.string):= by kernel_rfl
theorem ln9 (h : H) (s : List Nat) (ts : List TypeId) (xs : List AV) : builtinA P .len (9 :: ts) (.str s :: xs) h = .val (.int .i64 (.ofNat s.length)) h := bi_len_str u9 s ts xs
theorem st9 (h : H) (v : AV) (hv : v.cells = [v]) (b o : Nat) : storeV P h 9 b o v = h.put b o [v] := storeV_one (by kernel_rfl) hv b o
theorem fa68_4 (b o : Nat) : fieldAddrA P 68 (.ptr b o) 4 = some (.ptr b (o + 4)):= by kernel_rfl
theorem bs28_1_0 (p0_0 p0_1 p0_2 p0_3 p0_4 : AV) : buildSC P 28 1 [(0, [p0_0, p0_1, p0_2, p0_3, p0_4])] = some (68, [p0_0, p0_1, p0_2, p0_3, p0_4]):= by kernel_rfl
theorem ap28_28 (h : H) (s : AV) (b o n : Nat) (c : Cap) (ts : List TypeId) (xs : List AV) : builtinA P .append (28 :: 28 :: ts) (s :: .slice b o n c :: xs) h = obs (h.row b o (n * 5)) fun new => appendN 68 5 s n new h := bi_append2 u28 u28 (fun _ q => nomatch q) (by kernel_rfl) s b o n c ts xs
theorem st28 (h : H) (v : AV) (hv : v.cells = [v]) (b o : Nat) : storeV P h 28 b o v = h.put b o [v] := storeV_one (by kernel_rfl) hv b o
theorem fa31_5 (b o : Nat) : fieldAddrA P 31 (.ptr b o) 5 = some (.ptr b (o + 5)):= by kernel_rfl
theorem ok29 : okT P 29 = true:= by kernel_rfl
theorem ld29 (h : H) (b o : Nat) : loadV P h 29 b o = cellAt h b o := loadV_one (by kernel_rfl) h b o
theorem cf18 (first cap args : List AV) (h : H) : callV P (.func 18 first cap) args h = .enter 18 (first ++ args ++ cap) h := callV_func 18 (by kernel_rfl) first cap args
theorem st29 (h : H) (v : AV) (hv : v.cells = [v]) (b o : Nat) : storeV P h 29 b o v = h.put b o [v] := storeV_one (by kernel_rfl) hv b o
theorem fa31_6 (b o : Nat) : fieldAddrA P 31 (.ptr b o) 6 = some (.ptr b (o + 6)):= by kernel_rfl
theorem fa38_0 (b o : Nat) : fieldAddrA P 38 (.ptr b o) 0 = some (.ptr b o):= by kernel_rfl
theorem ok34 : okT P 34 = true:= by kernel_rfl
theorem ld34 (h : H) (b o : Nat) : loadV P h 34 b o = cellAt h b o := loadV_one (by kernel_rfl) h b o
theorem fa38_3 (b o : Nat) : fieldAddrA P 38 (.ptr b o) 3 = some (.ptr b (o + 3)):= by kernel_rfl
theorem u4 : P.underlying 4 = some (.bool):= by kernel_rfl
theorem eq4 (h : H) (x y : Operand) (a b : Bool) : binR P h .eql 4 x y (.bool a) (.bool b) = .val (.bool (a == b)) h := b_eqlB u4 a b
theorem ne4 (h : H) (x y : Operand) (a b : Bool) : binR P h .neq 4 x y (.bool a) (.bool b) = .val (.bool (!(a == b))) h := b_neqB u4 a b
theorem fa38_5 (b o : Nat) : fieldAddrA P 38 (.ptr b o) 5 = some (.ptr b (o + 5)):= by kernel_rfl
theorem ok36 : okT P 36 = true:= by kernel_rfl
theorem ld36 (h : H) (b o : Nat) : loadV P h 36 b o = cellAt h b o := loadV_one (by kernel_rfl) h b o
theorem fa38_6 (b o : Nat) : fieldAddrA P 38 (.ptr b o) 6 = some (.ptr b (o + 6)):= by kernel_rfl
theorem fa38_7 (b o : Nat) : fieldAddrA P 38 (.ptr b o) 7 = some (.ptr b (o + 7)):= by kernel_rfl
theorem fa38_8 (b o : Nat) : fieldAddrA P 38 (.ptr b o) 8 = some (.ptr b (o + 8)):= by kernel_rfl
theorem ok3 : okT P 3 = true:= by kernel_rfl
theorem ld3 (h : H) (b o : Nat) : loadV P h 3 b o = cellAt h b o := loadV_one (by kernel_rfl) h b o
theorem fa38_4 (b o : Nat) : fieldAddrA P 38 (.ptr b o) 4 = some (.ptr b (o + 4)):= by kernel_rfl
theorem ok35 : okT P 35 = true:= by kernel_rfl
theorem ld35 (h : H) (b o : Nat) : loadV P h 35 b o = cellAt h b o := loadV_one (by kernel_rfl) h b o
theorem u35 : P.underlying 35 = some (.slice 72):= by kernel_rfl
theorem ia35 (b o len : Nat) (cap : Cap) (kd : IntKind) (i : Nat) : indexAddrA P 35 (.slice b o len cap) (.int kd (.ofNat i)) = if i < len then some (.ptr b (o + i * 5)) else none := indexAddr_slice (e := 72) (by kernel_rfl) (by kernel_rfl) (by kernel_rfl) b o len cap kd i
theorem ok72 : okT P 72 = true:= by kernel_rfl
theorem ld72 (h : H) (b o : Nat) : loadV P h 72 b o = aggO (seqO [cellAt h b o, cellAt h b (o + 1), cellAt h b (o + 2), cellAt h b (o + 3), cellAt h b (o + 4)]) := ld_agg (k := 4) (by kernel_rfl) (by kernel_rfl) b o
theorem cf19 (first cap args : List AV) (h : H) : callV P (.func 19 first cap) args h = .enter 19 (first ++ args ++ cap) h := callV_func 19 (by kernel_rfl) first cap args
theorem ld38 (h : H) (b o : Nat) : loadV P h 38 b o = aggO (seqO [cellAt h b o, cellAt h b (o + 1), cellAt h b (o + 2), cellAt h b (o + 3), cellAt h b (o + 4), cellAt h b (o + 5), cellAt h b (o + 6), cellAt h b (o + 7), cellAt h b (o + 8)]) := ld_agg (k := 8) (by kernel_rfl) (by kernel_rfl) b o
theorem fa31_0 (b o : Nat) : fieldAddrA P 31 (.ptr b o) 0 = some (.ptr b o):= by kernel_rfl
theorem cf20 (first cap args : List AV) (h : H) : callV P (.func 20 first cap) args h = .enter 20 (first ++ args ++ cap) h := callV_func 20 (by kernel_rfl) first cap args
theorem cf21 (first cap args : List AV) (h : H) : callV P (.func 21 first cap) args h = .enter 21 (first ++ args ++ cap) h := callV_func 21 (by kernel_rfl) first cap args
theorem st34 (h : H) (v : AV) (hv : v.cells = [v]) (b o : Nat) : storeV P h 34 b o v = h.put b o [v] := storeV_one (by kernel_rfl) hv b o
theorem st27 (h : H) (v : AV) (hv : v.cells = [v]) (b o : Nat) : storeV P h 27 b o v = h.put b o [v] := storeV_one (by kernel_rfl) hv b o
theorem fa66_0 (b o : Nat) : fieldAddrA P 66 (.ptr b o) 0 = some (.ptr b o):= by kernel_rfl
theorem ok63 : okT P 63 = true:= by kernel_rfl
theorem ld63 (h : H) (b o : Nat) : loadV P h 63 b o = cellAt h b o := loadV_one (by kernel_rfl) h b o
theorem cf22 (first cap args : List AV) (h : H) : callV P (.func 22 first cap) args h = .enter 22 (first ++ args ++ cap) h := callV_func 22 (by kernel_rfl) first cap args
theorem cf23 (first cap args : List AV) (h : H) : callV P (.func 23 first cap) args h = .enter 23 (first ++ args ++ cap) h := callV_func 23 (by kernel_rfl) first cap args
theorem fa31_7 (b o : Nat) : fieldAddrA P 31 (.ptr b o) 7 = some (.ptr b (o + 7)):= by kernel_rfl
theorem cf24 (first cap args : List AV) (h : H) : callV P (.func 24 first cap) args h = .enter 24 (first ++ args ++ cap) h := callV_func 24 (by kernel_rfl) first cap args
theorem fa77_1 (b o : Nat) : fieldAddrA P 77 (.ptr b o) 1 = some (.ptr b (o + 1)):= by kernel_rfl
theorem fa77_2 (b o : Nat) : fieldAddrA P 77 (.ptr b o) 2 = some (.ptr b (o + 2)):= by kernel_rfl
theorem bc38_0_1_2 (p0_0 p1_0 p2_0 : AV) : buildC P 38 [(0, [p0_0]), (1, [p1_0]), (2, [p2_0])] = some (.agg [p0_0, p1_0, p2_0, (.bool false), .nilslice, (.int .u32 (.ofNat 0)), (.int .u64 (.ofNat 0)), (.int .u64 (.ofNat 0)), (.int .i64 (.ofNat 0))]):= by kernel_rfl
theorem fa77_0 (b o : Nat) : fieldAddrA P 77 (.ptr b o) 0 = some (.ptr b o):= by kernel_rfl
theorem cf25 (first cap args : List AV) (h : H) : callV P (.func 25 first cap) args h = .enter 25 (first ++ args ++ cap) h := callV_func 25 (by kernel_rfl) first cap args
theorem z80 : zeroA P 80 = some (.agg [(.int .i64 (.ofNat 0)), (.str []), (.str []), (.str []), (.int .u64 (.ofNat 0)), (.int .i64 (.ofNat 0)), (.bool false), (.bool false), (.bool false)]):= by kernel_rfl
theorem ok80 : okT P 80 = true:= by kernel_rfl
theorem st80 (h : H) (l : List AV) (hl : l.length = 9) (b o : Nat) : storeV P h 80 b o (.agg l) = h.put b o l := storeV_agg (by kernel_rfl) hl b o
theorem ld80 (h : H) (b o : Nat) : loadV P h 80 b o = aggO (seqO [cellAt h b o, cellAt h b (o + 1), cellAt h b (o + 2), cellAt h b (o + 3), cellAt h b (o + 4), cellAt h b (o + 5), cellAt h b (o + 6), cellAt h b (o + 7), cellAt h b (o + 8)]) := ld_agg (k := 8) (by kernel_rfl) (by kernel_rfl) b o
theorem z72 : zeroA P 72 = some (.agg [.nilslice, (.bool false), (.int .i64 (.ofNat 0)), (.int .i64 (.ofNat 0)), .nilslice]):= by kernel_rfl
theorem st72 (h : H) (l : List AV) (hl : l.length = 5) (b o : Nat) : storeV P h 72 b o (.agg l) = h.put b o l := storeV_agg (by kernel_rfl) hl b o
theorem fa72_0 (b o : Nat) : fieldAddrA P 72 (.ptr b o) 0 = some (.ptr b o):= by kernel_rfl
theorem ok44 : okT P 44 = true:= by kernel_rfl
theorem ld44 (h : H) (b o : Nat) : loadV P h 44 b o = cellAt h b o := loadV_one (by kernel_rfl) h b o
theorem ok59 : okT P 59 = true:= by kernel_rfl
theorem ld59 (h : H) (b o : Nat) : loadV P h 59 b o = aggO (seqO [cellAt h b o, cellAt h b (o + 1)]) := ld_agg (k := 1) (by kernel_rfl) (by kernel_rfl) b o
theorem cf29 (first cap args : List AV) (h : H) : callV P (.func 29 first cap) args h = .enter 29 (first ++ args ++ cap) h := callV_func 29 (by kernel_rfl) first cap args
theorem cf30 (first cap args : List AV) (h : H) : callV P (.func 30 first cap) args h = .enter 30 (first ++ args ++ cap) h := callV_func 30 (by kernel_rfl) first cap args
theorem fa51_1 (b o : Nat) : fieldAddrA P 51 (.ptr b o) 1 = some (.ptr b (o + 1)):= by kernel_rfl
theorem ok5 : okT P 5 = true:= by kernel_rfl
theorem ld5 (h : H) (b o : Nat) : loadV P h 5 b o = cellAt h b o := loadV_one (by kernel_rfl) h b o
theorem cf31 (first cap args : List AV) (h : H) : callV P (.func 31 first cap) args h = .enter 31 (first ++ args ++ cap) h := callV_func 31 (by kernel_rfl) first cap args
theorem fa51_3 (b o : Nat) : fieldAddrA P 51 (.ptr b o) 3 = some (.ptr b (o + 3)):= by kernel_rfl
theorem bs89_1_0 (p0_0 : AV) : buildSC P 89 1 [(0, [p0_0])] = some (5, [p0_0]):= by kernel_rfl
theorem bc80_0_1_3_8 (p0_0 p1_0 p3_0 p8_0 : AV) : buildC P 80 [(0, [p0_0]), (1, [p1_0]), (3, [p3_0]), (8, [p8_0])] = some (.agg [p0_0, p1_0, (.str []), p3_0, (.int .u64 (.ofNat 0)), (.int .i64 (.ofNat 0)), (.bool false), (.bool false), p8_0]):= by kernel_rfl
theorem fa51_2 (b o : Nat) : fieldAddrA P 51 (.ptr b o) 2 = some (.ptr b (o + 2)):= by kernel_rfl
theorem bc80_0_1_8 (p0_0 p1_0 p8_0 : AV) : buildC P 80 [(0, [p0_0]), (1, [p1_0]), (8, [p8_0])] = some (.agg [p0_0, p1_0, (.str []), (.str []), (.int .u64 (.ofNat 0)), (.int .i64 (.ofNat 0)), (.bool false), (.bool false), p8_0]):= by kernel_rfl
theorem cv5_27 (j : IntKind) (n : Int) (h : H) : convR P 5 27 (.int j n) h = .val (.int .u64 (wrapF .u64 n)) h := conv_int (u := .int .u8) (by kernel_rfl) (by kernel_rfl) j n
theorem bc80_1_2_4_5 (p1_0 p2_0 p4_0 p5_0 : AV) : buildC P 80 [(1, [p1_0]), (2, [p2_0]), (4, [p4_0]), (5, [p5_0])] = some (.agg [(.int .i64 (.ofNat 0)), p1_0, p2_0, (.str []), p4_0, p5_0, (.bool false), (.bool false), (.bool false)]):= by kernel_rfl
theorem fa51_0 (b o : Nat) : fieldAddrA P 51 (.ptr b o) 0 = some (.ptr b o):= by kernel_rfl
theorem u5 : P.underlying 5 = some (.int .u8):= by kernel_rfl
theorem bs29_1_0 (p0_0 p0_1 p0_2 p0_3 p0_4 p0_5 p0_6 p0_7 p0_8 : AV) : buildSC P 29 1 [(0, [p0_0, p0_1, p0_2, p0_3, p0_4, p0_5, p0_6, p0_7, p0_8])] = some (80, [p0_0, p0_1, p0_2, p0_3, p0_4, p0_5, p0_6, p0_7, p0_8]):= by kernel_rfl
theorem bc31_5 (p5_0 : AV) : buildC P 31 [(5, [p5_0])] = some (.agg [(.int .i64 (.ofNat 0)), (.int .u64 (.ofNat 0)), (.int .u64 (.ofNat 0)), (.bool false), .nilslice, p5_0, .nilslice, (.int .u64 (.ofNat 0))]):= by kernel_rfl
theorem bs29_3_0_1_2 (p0_0 p0_1 p0_2 p0_3 p0_4 p0_5 p0_6 p0_7 p0_8 p1_0 p1_1 p1_2 p1_3 p1_4 p1_5 p1_6 p1_7 p1_8 p2_0 p2_1 p2_2 p2_3 p2_4 p2_5 p2_6 p2_7 p2_8 : AV) : buildSC P 29 3 [(0, [p0_0, p0_1, p0_2, p0_3, p0_4, p0_5, p0_6, p0_7, p0_8]), (1, [p1_0, p1_1, p1_2, p1_3, p1_4, p1_5, p1_6, p1_7, p1_8]), (2, [p2_0, p2_1, p2_2, p2_3, p2_4, p2_5, p2_6, p2_7, p2_8])] = some (80, [p0_0, p0_1, p0_2, p0_3, p0_4, p0_5, p0_6, p0_7, p0_8, p1_0, p1_1, p1_2, p1_3, p1_4, p1_5, p1_6, p1_7, p1_8, p2_0, p2_1, p2_2, p2_3, p2_4, p2_5, p2_6, p2_7, p2_8]):= by kernel_rfl
theorem bc80_0_1_2 (p0_0 p1_0 p2_0 : AV) : buildC P 80 [(0, [p0_0]), (1, [p1_0]), (2, [p2_0])] = some (.agg [p0_0, p1_0, p2_0, (.str []), (.int .u64 (.ofNat 0)), (.int .i64 (.ofNat 0)), (.bool false), (.bool false), (.bool false)]):= by kernel_rfl
theorem bs29_2_0_1 (p0_0 p0_1 p0_2 p0_3 p0_4 p0_5 p0_6 p0_7 p0_8 p1_0 p1_1 p1_2 p1_3 p1_4 p1_5 p1_6 p1_7 p1_8 : AV) : buildSC P 29 2 [(0, [p0_0, p0_1, p0_2, p0_3, p0_4, p0_5, p0_6, p0_7, p0_8]), (1, [p1_0, p1_1, p1_2, p1_3, p1_4, p1_5, p1_6, p1_7, p1_8])] = some (80, [p0_0, p0_1, p0_2, p0_3, p0_4, p0_5, p0_6, p0_7, p0_8, p1_0, p1_1, p1_2, p1_3, p1_4, p1_5, p1_6, p1_7, p1_8]):= by kernel_rfl
theorem bc68_0_1_2_3 (p0_0 p1_0 p2_0 p3_0 : AV) : buildC P 68 [(0, [p0_0]), (1, [p1_0]), (2, [p2_0]), (3, [p3_0])] = some (.agg [p0_0, p1_0, p2_0, p3_0, (.str [])]):= by kernel_rfl
theorem bc31_4_5_6 (p4_0 p5_0 p6_0 : AV) : buildC P 31 [(4, [p4_0]), (5, [p5_0]), (6, [p6_0])] = some (.agg [(.int .i64 (.ofNat 0)), (.int .u64 (.ofNat 0)), (.int .u64 (.ofNat 0)), (.bool false), p4_0, p5_0, p6_0, (.int .u64 (.ofNat 0))]):= by kernel_rfl
theorem bc31_0_7 (p0_0 p7_0 : AV) : buildC P 31 [(0, [p0_0]), (7, [p7_0])] = some (.agg [p0_0, (.int .u64 (.ofNat 0)), (.int .u64 (.ofNat 0)), (.bool false), .nilslice, .nilslice, .nilslice, p7_0]):= by kernel_rfl
theorem z56 : zeroA P 56 = some .nilslice:= by kernel_rfl
theorem z85 : zeroA P 85 = some .nilmap:= by kernel_rfl
theorem z27 : zeroA P 27 = some (.int .u64 (.ofNat 0)):= by kernel_rfl
theorem ok85 : okT P 85 = true:= by kernel_rfl
theorem st85 (h : H) (v : AV) (hv : v.cells = [v]) (b o : Nat) : storeV P h 85 b o v = h.put b o [v] := storeV_one (by kernel_rfl) hv b o
theorem z45 : zeroA P 45 = some .nilslice:= by kernel_rfl
theorem cf32 (first cap args : List AV) (h : H) : callV P (.func 32 first cap) args h = .enter 32 (first ++ args ++ cap) h := callV_func 32 (by kernel_rfl) first cap args
theorem z94 : zeroA P 94 = some (.agg [(.int .u64 (.ofNat 0)), (.int .u64 (.ofNat 0)), (.str []), (.str []), (.int .u64 (.ofNat 0)), (.int .u64 (.ofNat 0)), (.int .u64 (.ofNat 0)), (.bool false)]):= by kernel_rfl
theorem ok94 : okT P 94 = true:= by kernel_rfl
theorem st94 (h : H) (l : List AV) (hl : l.length = 8) (b o : Nat) : storeV P h 94 b o (.agg l) = h.put b o l := storeV_agg (by kernel_rfl) hl b o
theorem fa94_0 (b o : Nat) : fieldAddrA P 94 (.ptr b o) 0 = some (.ptr b o):= by kernel_rfl
theorem fa59_0 (b o : Nat) : fieldAddrA P 59 (.ptr b o) 0 = some (.ptr b o):= by kernel_rfl
theorem ia45 (b o len : Nat) (cap : Cap) (kd : IntKind) (i : Nat) : indexAddrA P 45 (.slice b o len cap) (.int kd (.ofNat i)) = if i < len then some (.ptr b (o + i * 8)) else none := indexAddr_slice (e := 94) (by kernel_rfl) (by kernel_rfl) (by kernel_rfl) b o len cap kd i
theorem ld94 (h : H) (b o : Nat) : loadV P h 94 b o = aggO (seqO [cellAt h b o, cellAt h b (o + 1), cellAt h b (o + 2), cellAt h b (o + 3), cellAt h b (o + 4), cellAt h b (o + 5), cellAt h b (o + 6), cellAt h b (o + 7)]) := ld_agg (k := 7) (by kernel_rfl) (by kernel_rfl) b o
theorem ld85 (h : H) (b o : Nat) : loadV P h 85 b o = cellAt h b o := loadV_one (by kernel_rfl) h b o
theorem cf33 (first cap args : List AV) (h : H) : callV P (.func 33 first cap) args h = .enter 33 (first ++ args ++ cap) h := callV_func 33 (by kernel_rfl) first cap args
theorem st45 (h : H) (v : AV) (hv : v.cells = [v]) (b o : Nat) : storeV P h 45 b o v = h.put b o [v] := storeV_one (by kernel_rfl) hv b o
theorem fa94_1 (b o : Nat) : fieldAddrA P 94 (.ptr b o) 1 = some (.ptr b (o + 2)):= by kernel_rfl
theorem cf34 (first cap args : List AV) (h : H) : callV P (.func 34 first cap) args h = .enter 34 (first ++ args ++ cap) h := callV_func 34 (by kernel_rfl) first cap args
theorem ok56 : okT P 56 = true:= by kernel_rfl
theorem ld56 (h : H) (b o : Nat) : loadV P h 56 b o = cellAt h b o := loadV_one (by kernel_rfl) h b o
theorem fa94_2 (b o : Nat) : fieldAddrA P 94 (.ptr b o) 2 = some (.ptr b (o + 7)):= by kernel_rfl
theorem fd94_1 (c0 c1 c2 c3 c4 c5 c6 c7 : AV) : fieldA P 94 (.agg [c0, c1, c2, c3, c4, c5, c6, c7]) 1 = some (.agg [c2, c3, c4, c5, c6]):= by kernel_rfl
theorem bc61_0_1_2_3 (p0_0 p0_1 p1_0 p2_0 p2_1 p2_2 p2_3 p2_4 p3_0 p3_1 p3_2 p3_3 p3_4 : AV) : buildC P 61 [(0, [p0_0, p0_1]), (1, [p1_0]), (2, [p2_0, p2_1, p2_2, p2_3, p2_4]), (3, [p3_0, p3_1, p3_2, p3_3, p3_4])] = some (.agg [p0_0, p0_1, p1_0, p2_0, p2_1, p2_2, p2_3, p2_4, p3_0, p3_1, p3_2, p3_3, p3_4]):= by kernel_rfl
theorem bs56_1_0 (p0_0 p0_1 p0_2 p0_3 p0_4 p0_5 p0_6 p0_7 p0_8 p0_9 p0_10 p0_11 p0_12 : AV) : buildSC P 56 1 [(0, [p0_0, p0_1, p0_2, p0_3, p0_4, p0_5, p0_6, p0_7, p0_8, p0_9, p0_10, p0_11, p0_12])] = some (61, [p0_0, p0_1, p0_2, p0_3, p0_4, p0_5, p0_6, p0_7, p0_8, p0_9, p0_10, p0_11, p0_12]):= by kernel_rfl
theorem ap56_56 (h : H) (s : AV) (b o n : Nat) (c : Cap) (ts : List TypeId) (xs : List AV) : builtinA P .append (56 :: 56 :: ts) (s :: .slice b o n c :: xs) h = obs (h.row b o (n * 13)) fun new => appendN 61 13 s n new h := bi_append2 u56 u56 (fun _ q => nomatch q) (by kernel_rfl) s b o n c ts xs
theorem st56 (h : H) (v : AV) (hv : v.cells = [v]) (b o : Nat) : storeV P h 56 b o v = h.put b o [v] := storeV_one (by kernel_rfl) hv b o
theorem bs45_1_0 (p0_0 p0_1 p0_2 p0_3 p0_4 p0_5 p0_6 p0_7 : AV) : buildSC P 45 1 [(0, [p0_0, p0_1, p0_2, p0_3, p0_4, p0_5, p0_6, p0_7])] = some (94, [p0_0, p0_1, p0_2, p0_3, p0_4, p0_5, p0_6, p0_7]):= by kernel_rfl
theorem ap45_45 (h : H) (s : AV) (b o n : Nat) (c : Cap) (ts : List TypeId) (xs : List AV) : builtinA P .append (45 :: 45 :: ts) (s :: .slice b o n c :: xs) h = obs (h.row b o (n * 8)) fun new => appendN 94 8 s n new h := bi_append2 u45 u45 (fun _ q => nomatch q) (by kernel_rfl) s b o n c ts xs
theorem bc77_1 (p1_0 : AV) : buildC P 77 [(1, [p1_0])] = some (.agg [.nilslice, p1_0, (.int .u64 (.ofNat 0)), (.int .u64 (.ofNat 0)), (.int .u64 (.ofNat 0)), .nilslice, .nilslice, (.int .u64 (.ofNat 0))]):= by kernel_rfl
theorem u29 : P.underlying 29 = some (.slice 80):= by kernel_rfl
theorem ia29 (b o len : Nat) (cap : Cap) (kd : IntKind) (i : Nat) : indexAddrA P 29 (.slice b o len cap) (.int kd (.ofNat i)) = if i < len then some (.ptr b (o + i * 9)) else none := indexAddr_slice (e := 80) (by kernel_rfl) (by kernel_rfl) (by kernel_rfl) b o len cap kd i
theorem fa80_1 (b o : Nat) : fieldAddrA P 80 (.ptr b o) 1 = some (.ptr b (o + 1)):= by kernel_rfl
theorem fa80_2 (b o : Nat) : fieldAddrA P 80 (.ptr b o) 2 = some (.ptr b (o + 2)):= by kernel_rfl
theorem fa80_3 (b o : Nat) : fieldAddrA P 80 (.ptr b o) 3 = some (.ptr b (o + 3)):= by kernel_rfl
theorem ap29_29 (h : H) (s : AV) (b o n : Nat) (c : Cap) (ts : List TypeId) (xs : List AV) : builtinA P .append (29 :: 29 :: ts) (s :: .slice b o n c :: xs) h = obs (h.row b o (n * 9)) fun new => appendN 80 9 s n new h := bi_append2 u29 u29 (fun _ q => nomatch q) (by kernel_rfl) s b o n c ts xs
theorem fa72_1 (b o : Nat) : fieldAddrA P 72 (.ptr b o) 1 = some (.ptr b (o + 1)):= by kernel_rfl
theorem fa72_2 (b o : Nat) : fieldAddrA P 72 (.ptr b o) 2 = some (.ptr b (o + 2)):= by kernel_rfl
theorem fa72_3 (b o : Nat) : fieldAddrA P 72 (.ptr b o) 3 = some (.ptr b (o + 3)):= by kernel_rfl
theorem fa72_4 (b o : Nat) : fieldAddrA P 72 (.ptr b o) 4 = some (.ptr b (o + 4)):= by kernel_rfl
theorem cf35 (first cap args : List AV) (h : H) : callV P (.func 35 first cap) args h = .enter 35 (first ++ args ++ cap) h := callV_func 35 (by kernel_rfl) first cap args
theorem bc100_0_1 (p0_0 p1_0 : AV) : buildC P 100 [(0, [p0_0]), (1, [p1_0])] = some (.agg [p0_0, p1_0, .nilslice]):= by kernel_rfl
theorem z98 : zeroA P 98 = some .nilptr:= by kernel_rfl
theorem ok98 : okT P 98 = true:= by kernel_rfl
theorem st98 (h : H) (v : AV) (hv : v.cells = [v]) (b o : Nat) : storeV P h 98 b o v = h.put b o [v] := storeV_one (by kernel_rfl) hv b o
theorem cf38 (first cap args : List AV) (h : H) : callV P (.func 38 first cap) args h = .enter 38 (first ++ args ++ cap) h := callV_func 38 (by kernel_rfl) first cap args
theorem cf39 (first cap args : List AV) (h : H) : callV P (.func 39 first cap) args h = .enter 39 (first ++ args ++ cap) h := callV_func 39 (by kernel_rfl) first cap args
theorem cf40 (first cap args : List AV) (h : H) : callV P (.func 40 first cap) args h = .enter 40 (first ++ args ++ cap) h := callV_func 40 (by kernel_rfl) first cap args
theorem ld98 (h : H) (b o : Nat) : loadV P h 98 b o = cellAt h b o := loadV_one (by kernel_rfl) h b o
theorem bc108_0_1_2 (p0_0 p1_0 p2_0 : AV) : buildC P 108 [(0, [p0_0]), (1, [p1_0]), (2, [p2_0])] = some (.agg [p0_0, p1_0, p2_0]):= by kernel_rfl
theorem z108 : zeroA P 108 = some (.agg [.nilFunc, .nilFunc, .nilFunc]):= by kernel_rfl
theorem ok108 : okT P 108 = true:= by kernel_rfl
theorem st108 (h : H) (l : List AV) (hl : l.length = 3) (b o : Nat) : storeV P h 108 b o (.agg l) = h.put b o l := storeV_agg (by kernel_rfl) hl b o
theorem fa80_0 (b o : Nat) : fieldAddrA P 80 (.ptr b o) 0 = some (.ptr b o):= by kernel_rfl
theorem ok107 : okT P 107 = true:= by kernel_rfl
theorem ld107 (h : H) (b o : Nat) : loadV P h 107 b o = cellAt h b o := loadV_one (by kernel_rfl) h b o
theorem bs35_1_0 (p0_0 p0_1 p0_2 p0_3 p0_4 : AV) : buildSC P 35 1 [(0, [p0_0, p0_1, p0_2, p0_3, p0_4])] = some (72, [p0_0, p0_1, p0_2, p0_3, p0_4]):= by kernel_rfl
theorem ap35_35 (h : H) (s : AV) (b o n : Nat) (c : Cap) (ts : List TypeId) (xs : List AV) : builtinA P .append (35 :: 35 :: ts) (s :: .slice b o n c :: xs) h = obs (h.row b o (n * 5)) fun new => appendN 72 5 s n new h := bi_append2 u35 u35 (fun _ q => nomatch q) (by kernel_rfl) s b o n c ts xs
theorem st35 (h : H) (v : AV) (hv : v.cells = [v]) (b o : Nat) : storeV P h 35 b o v = h.put b o [v] := storeV_one (by kernel_rfl) hv b o
theorem st4 (h : H) (v : AV) (hv : v.cells = [v]) (b o : Nat) : storeV P h 4 b o v = h.put b o [v] := storeV_one (by kernel_rfl) hv b o
theorem fa100_2 (b o : Nat) : fieldAddrA P 100 (.ptr b o) 2 = some (.ptr b (o + 2)):= by kernel_rfl
theorem cf44 (first cap args : List AV) (h : H) : callV P (.func 44 first cap) args h = .enter 44 (first ++ args ++ cap) h := callV_func 44 (by kernel_rfl) first cap args
theorem fa77_6 (b o : Nat) : fieldAddrA P 77 (.ptr b o) 6 = some (.ptr b (o + 6)):= by kernel_rfl
theorem fa77_7 (b o : Nat) : fieldAddrA P 77 (.ptr b o) 7 = some (.ptr b (o + 7)):= by kernel_rfl
theorem bc38_1_2 (p1_0 p2_0 : AV) : buildC P 38 [(1, [p1_0]), (2, [p2_0])] = some (.agg [(.int .i64 (.ofNat 0)), p1_0, p2_0, (.bool false), .nilslice, (.int .u32 (.ofNat 0)), (.int .u64 (.ofNat 0)), (.int .u64 (.ofNat 0)), (.int .i64 (.ofNat 0))]):= by kernel_rfl
theorem cf45 (first cap args : List AV) (h : H) : callV P (.func 45 first cap) args h = .enter 45 (first ++ args ++ cap) h := callV_func 45 (by kernel_rfl) first cap args
theorem cf46 (first cap args : List AV) (h : H) : callV P (.func 46 first cap) args h = .enter 46 (first ++ args ++ cap) h := callV_func 46 (by kernel_rfl) first cap args
theorem z55 : zeroA P 55 = some (.agg [(.str []), (.str []), (.int .u64 (.ofNat 0)), (.int .u64 (.ofNat 0)), (.int .u64 (.ofNat 0))]):= by kernel_rfl
theorem st55 (h : H) (l : List AV) (hl : l.length = 5) (b o : Nat) : storeV P h 55 b o (.agg l) = h.put b o l := storeV_agg (by kernel_rfl) hl b o
theorem cf47 (first cap args : List AV) (h : H) : callV P (.func 47 first cap) args h = .enter 47 (first ++ args ++ cap) h := callV_func 47 (by kernel_rfl) first cap args
theorem cf48 (first cap args : List AV) (h : H) : callV P (.func 48 first cap) args h = .enter 48 (first ++ args ++ cap) h := callV_func 48 (by kernel_rfl) first cap args
theorem fa80_4 (b o : Nat) : fieldAddrA P 80 (.ptr b o) 4 = some (.ptr b (o + 4)):= by kernel_rfl
theorem cf49 (first cap args : List AV) (h : H) : callV P (.func 49 first cap) args h = .enter 49 (first ++ args ++ cap) h := callV_func 49 (by kernel_rfl) first cap args
theorem bc72_ : buildC P 72 [] = some (.agg [.nilslice, (.bool false), (.int .i64 (.ofNat 0)), (.int .i64 (.ofNat 0)), .nilslice]):= by kernel_rfl
theorem cf51 (first cap args : List AV) (h : H) : callV P (.func 51 first cap) args h = .enter 51 (first ++ args ++ cap) h := callV_func 51 (by kernel_rfl) first cap args
theorem cf50 (first cap args : List AV) (h : H) : callV P (.func 50 first cap) args h = .enter 50 (first ++ args ++ cap) h := callV_func 50 (by kernel_rfl) first cap args
theorem bc55_0_1_2_3_4 (p0_0 p1_0 p2_0 p3_0 p4_0 : AV) : buildC P 55 [(0, [p0_0]), (1, [p1_0]), (2, [p2_0]), (3, [p3_0]), (4, [p4_0])] = some (.agg [p0_0, p1_0, p2_0, p3_0, p4_0]):= by kernel_rfl
theorem fa55_2 (b o : Nat) : fieldAddrA P 55 (.ptr b o) 2 = some (.ptr b (o + 2)):= by kernel_rfl
theorem fa55_4 (b o : Nat) : fieldAddrA P 55 (.ptr b o) 4 = some (.ptr b (o + 4)):= by kernel_rfl
theorem fa80_8 (b o : Nat) : fieldAddrA P 80 (.ptr b o) 8 = some (.ptr b (o + 8)):= by kernel_rfl
theorem bs44_1_0 (p0_0 p0_1 p0_2 p0_3 p0_4 : AV) : buildSC P 44 1 [(0, [p0_0, p0_1, p0_2, p0_3, p0_4])] = some (55, [p0_0, p0_1, p0_2, p0_3, p0_4]):= by kernel_rfl
theorem st44 (h : H) (v : AV) (hv : v.cells = [v]) (b o : Nat) : storeV P h 44 b o v = h.put b o [v] := storeV_one (by kernel_rfl) hv b o
theorem cv3_27 (j : IntKind) (n : Int) (h : H) : convR P 3 27 (.int j n) h = .val (.int .u64 (wrapF .u64 n)) h := conv_int (u := .int .i64) (by kernel_rfl) (by kernel_rfl) j n
theorem bc59_0_1 (p0_0 p1_0 : AV) : buildC P 59 [(0, [p0_0]), (1, [p1_0])] = some (.agg [p0_0, p1_0]):= by kernel_rfl
theorem bc94_0_1 (p0_0 p0_1 p1_0 p1_1 p1_2 p1_3 p1_4 : AV) : buildC P 94 [(0, [p0_0, p0_1]), (1, [p1_0, p1_1, p1_2, p1_3, p1_4])] = some (.agg [p0_0, p0_1, p1_0, p1_1, p1_2, p1_3, p1_4, (.bool false)]):= by kernel_rfl
theorem bc55_0 (p0_0 : AV) : buildC P 55 [(0, [p0_0])] = some (.agg [p0_0, (.str []), (.int .u64 (.ofNat 0)), (.int .u64 (.ofNat 0)), (.int .u64 (.ofNat 0))]):= by kernel_rfl
theorem bc94_0_1_2 (p0_0 p0_1 p1_0 p1_1 p1_2 p1_3 p1_4 p2_0 : AV) : buildC P 94 [(0, [p0_0, p0_1]), (1, [p1_0, p1_1, p1_2, p1_3, p1_4]), (2, [p2_0])] = some (.agg [p0_0, p0_1, p1_0, p1_1, p1_2, p1_3, p1_4, p2_0]):= by kernel_rfl
theorem st3 (h : H) (v : AV) (hv : v.cells = [v]) (b o : Nat) : storeV P h 3 b o v = h.put b o [v] := storeV_one (by kernel_rfl) hv b o
theorem u75 : P.underlying 75 = some (.slice 115):= by kernel_rfl
theorem lm75 (h : H) (ts : List TypeId) (xs : List AV) : builtinA P .len (75 :: ts) (.nilslice :: xs) h = .val (.int .i64 (.ofNat 0)) h := bi_len_nil u75 ts xs
theorem ex94 (a0 b0 : Int) (a1 b1 : Int) (a2 b2 : List Nat) (a3 b3 : List Nat) (a4 b4 : Int) (a5 b5 : Int) (a6 b6 : Int) (a7 b7 : Bool) : eqA P 12 94 (.agg [.int .u64 a0, .int .u64 a1, .str a2, .str a3, .int .u64 a4, .int .u64 a5, .int .u64 a6, .bool a7]) (.agg [.int .u64 b0, .int .u64 b1, .str b2, .str b3, .int .u64 b4, .int .u64 b5, .int .u64 b6, .bool b7]) = andO (andO (some (a0 == b0)) (andO (some (a1 == b1)) (some true))) (andO (andO (some (listEqB a2 b2)) (andO (some (listEqB a3 b3)) (andO (some (a4 == b4)) (andO (some (a5 == b5)) (andO (some (a6 == b6)) (some true)))))) (andO (some (a7 == b7)) (some true))):= by kernel_rfl
theorem na94 (h : H) (x y : Operand) (a b : List AV) : binR P h .neq 94 x y (.agg a) (.agg b) = neO (eqA P 12 94 (.agg a) (.agg b)) h := b_neqA (by kernel_rfl) a b
theorem cf53 (first cap args : List AV) (h : H) : callV P (.func 53 first cap) args h = .enter 53 (first ++ args ++ cap) h := callV_func 53 (by kernel_rfl) first cap args
theorem cf55 (first cap args : List AV) (h : H) : callV P (.func 55 first cap) args h = .enter 55 (first ++ args ++ cap) h := callV_func 55 (by kernel_rfl) first cap args
theorem cf54 (first cap args : List AV) (h : H) : callV P (.func 54 first cap) args h = .enter 54 (first ++ args ++ cap) h := callV_func 54 (by kernel_rfl) first cap args
theorem ia118 (b o len : Nat) (cap : Cap) (kd : IntKind) (i : Nat) : indexAddrA P 118 (.slice b o len cap) (.int kd (.ofNat i)) = if i < len then some (.ptr b (o + i * 1)) else none := indexAddr_slice (e := 9) (by kernel_rfl) (by kernel_rfl) (by kernel_rfl) b o len cap kd i
theorem ap44_44 (h : H) (s : AV) (b o n : Nat) (c : Cap) (ts : List TypeId) (xs : List AV) : builtinA P .append (44 :: 44 :: ts) (s :: .slice b o n c :: xs) h = obs (h.row b o (n * 5)) fun new => appendN 55 5 s n new h := bi_append2 u44 u44 (fun _ q => nomatch q) (by kernel_rfl) s b o n c ts xs
theorem bc123_0_1_2_3_4_5 (p0_0 p1_0 p2_0 p3_0 p4_0 p5_0 : AV) : buildC P 123 [(0, [p0_0]), (1, [p1_0]), (2, [p2_0]), (3, [p3_0]), (4, [p4_0]), (5, [p5_0])] = some (.agg [p0_0, p1_0, p2_0, p3_0, p4_0, p5_0]):= by kernel_rfl
theorem cf59 (first cap args : List AV) (h : H) : callV P (.func 59 first cap) args h = .enter 59 (first ++ args ++ cap) h := callV_func 59 (by kernel_rfl) first cap args
theorem cf60 (first cap args : List AV) (h : H) : callV P (.func 60 first cap) args h = .enter 60 (first ++ args ++ cap) h := callV_func 60 (by kernel_rfl) first cap args
theorem fa100_1 (b o : Nat) : fieldAddrA P 100 (.ptr b o) 1 = some (.ptr b (o + 1)):= by kernel_rfl
theorem cf37 (first cap args : List AV) (h : H) : callV P (.func 37 first cap) args h = .enter 37 (first ++ args ++ cap) h := callV_func 37 (by kernel_rfl) first cap args
theorem cf61 (first cap args : List AV) (h : H) : callV P (.func 61 first cap) args h = .enter 61 (first ++ args ++ cap) h := callV_func 61 (by kernel_rfl) first cap args
theorem bc55_ : buildC P 55 [] = some (.agg [(.str []), (.str []), (.int .u64 (.ofNat 0)), (.int .u64 (.ofNat 0)), (.int .u64 (.ofNat 0))]):= by kernel_rfl
theorem cf62 (first cap args : List AV) (h : H) : callV P (.func 62 first cap) args h = .enter 62 (first ++ args ++ cap) h := callV_func 62 (by kernel_rfl) first cap args
theorem cf64 (first cap args : List AV) (h : H) : callV P (.func 64 first cap) args h = .enter 64 (first ++ args ++ cap) h := callV_func 64 (by kernel_rfl) first cap args
theorem cf65 (first cap args : List AV) (h : H) : callV P (.func 65 first cap) args h = .enter 65 (first ++ args ++ cap) h := callV_func 65 (by kernel_rfl) first cap args
theorem cf66 (first cap args : List AV) (h : H) : callV P (.func 66 first cap) args h = .enter 66 (first ++ args ++ cap) h := callV_func 66 (by kernel_rfl) first cap args
theorem bc130_0_1_2_3 (p0_0 p1_0 p2_0 p3_0 : AV) : buildC P 130 [(0, [p0_0]), (1, [p1_0]), (2, [p2_0]), (3, [p3_0])] = some (.agg [p0_0, p1_0, p2_0, p3_0]):= by kernel_rfl
theorem z130 : zeroA P 130 = some (.agg [.nilFunc, .nilFunc, .nilFunc, .nilFunc]):= by kernel_rfl
theorem ok130 : okT P 130 = true:= by kernel_rfl
theorem st130 (h : H) (l : List AV) (hl : l.length = 4) (b o : Nat) : storeV P h 130 b o (.agg l) = h.put b o l := storeV_agg (by kernel_rfl) hl b o
theorem fa68_1 (b o : Nat) : fieldAddrA P 68 (.ptr b o) 1 = some (.ptr b (o + 1)):= by kernel_rfl
theorem ok41 : okT P 41 = true:= by kernel_rfl
theorem ld41 (h : H) (b o : Nat) : loadV P h 41 b o = cellAt h b o := loadV_one (by kernel_rfl) h b o
theorem cf68 (first cap args : List AV) (h : H) : callV P (.func 68 first cap) args h = .enter 68 (first ++ args ++ cap) h := callV_func 68 (by kernel_rfl) first cap args
theorem fa100_0 (b o : Nat) : fieldAddrA P 100 (.ptr b o) 0 = some (.ptr b o):= by kernel_rfl
theorem ok23 : okT P 23 = true:= by kernel_rfl
theorem ld23 (h : H) (b o : Nat) : loadV P h 23 b o = cellAt h b o := loadV_one (by kernel_rfl) h b o
theorem cf69 (first cap args : List AV) (h : H) : callV P (.func 69 first cap) args h = .enter 69 (first ++ args ++ cap) h := callV_func 69 (by kernel_rfl) first cap args
theorem cf70 (first cap args : List AV) (h : H) : callV P (.func 70 first cap) args h = .enter 70 (first ++ args ++ cap) h := callV_func 70 (by kernel_rfl) first cap args
theorem cf71 (first cap args : List AV) (h : H) : callV P (.func 71 first cap) args h = .enter 71 (first ++ args ++ cap) h := callV_func 71 (by kernel_rfl) first cap args
theorem cf72 (first cap args : List AV) (h : H) : callV P (.func 72 first cap) args h = .enter 72 (first ++ args ++ cap) h := callV_func 72 (by kernel_rfl) first cap args
theorem fa55_3 (b o : Nat) : fieldAddrA P 55 (.ptr b o) 3 = some (.ptr b (o + 3)):= by kernel_rfl
theorem fa68_2 (b o : Nat) : fieldAddrA P 68 (.ptr b o) 2 = some (.ptr b (o + 2)):= by kernel_rfl
theorem fa55_1 (b o : Nat) : fieldAddrA P 55 (.ptr b o) 1 = some (.ptr b (o + 1)):= by kernel_rfl
theorem cf73 (first cap args : List AV) (h : H) : callV P (.func 73 first cap) args h = .enter 73 (first ++ args ++ cap) h := callV_func 73 (by kernel_rfl) first cap args
theorem fa68_3 (b o : Nat) : fieldAddrA P 68 (.ptr b o) 3 = some (.ptr b (o + 3)):= by kernel_rfl
theorem cf74 (first cap args : List AV) (h : H) : callV P (.func 74 first cap) args h = .enter 74 (first ++ args ++ cap) h := callV_func 74 (by kernel_rfl) first cap args
theorem bc72_2 (p2_0 : AV) : buildC P 72 [(2, [p2_0])] = some (.agg [.nilslice, (.bool false), p2_0, (.int .i64 (.ofNat 0)), .nilslice]):= by kernel_rfl
theorem fa80_6 (b o : Nat) : fieldAddrA P 80 (.ptr b o) 6 = some (.ptr b (o + 6)):= by kernel_rfl
theorem fa80_5 (b o : Nat) : fieldAddrA P 80 (.ptr b o) 5 = some (.ptr b (o + 5)):= by kernel_rfl
theorem fa80_7 (b o : Nat) : fieldAddrA P 80 (.ptr b o) 7 = some (.ptr b (o + 7)):= by kernel_rfl
theorem cf79 (first cap args : List AV) (h : H) : callV P (.func 79 first cap) args h = .enter 79 (first ++ args ++ cap) h := callV_func 79 (by kernel_rfl) first cap args
theorem cf63 (first cap args : List AV) (h : H) : callV P (.func 63 first cap) args h = .enter 63 (first ++ args ++ cap) h := callV_func 63 (by kernel_rfl) first cap args
theorem cf80 (first cap args : List AV) (h : H) : callV P (.func 80 first cap) args h = .enter 80 (first ++ args ++ cap) h := callV_func 80 (by kernel_rfl) first cap args
theorem bc139_0_1_2_3 (p0_0 p1_0 p2_0 p3_0 : AV) : buildC P 139 [(0, [p0_0]), (1, [p1_0]), (2, [p2_0]), (3, [p3_0])] = some (.agg [p0_0, p1_0, p2_0, p3_0]):= by kernel_rfl
theorem cf67 (first cap args : List AV) (h : H) : callV P (.func 67 first cap) args h = .enter 67 (first ++ args ++ cap) h := callV_func 67 (by kernel_rfl) first cap args
theorem cf81 (first cap args : List AV) (h : H) : callV P (.func 81 first cap) args h = .enter 81 (first ++ args ++ cap) h := callV_func 81 (by kernel_rfl) first cap args
theorem cf85 (first cap args : List AV) (h : H) : callV P (.func 85 first cap) args h = .enter 85 (first ++ args ++ cap) h := callV_func 85 (by kernel_rfl) first cap args
theorem cf86 (first cap args : List AV) (h : H) : callV P (.func 86 first cap) args h = .enter 86 (first ++ args ++ cap) h := callV_func 86 (by kernel_rfl) first cap args
set_option maxRecDepth 100000 in
theorem F : (((((((((type_of% @cf5) ∧ (type_of% @eq23)) ∧ ((type_of% @ok31) ∧ (type_of% @ld31))) ∧ (((type_of% @z31) ∧ (type_of% @st31)) ∧ ((type_of% @cf9) ∧ (type_of% @cf12)))) ∧ ((((type_of% @cv5_3) ∧ (type_of% @fa47_1)) ∧ ((type_of% @ok27) ∧ (type_of% @ld27))) ∧ (((type_of% @fa47_0) ∧ (type_of% @ok45)) ∧ ((type_of% @ld45) ∧ ((type_of% @cf13) ∧ (type_of% @ia43)))))) ∧ (((((type_of% @ok51) ∧ (type_of% @ld51)) ∧ ((type_of% @cf14) ∧ (type_of% @z38))) ∧ (((type_of% @ok38) ∧ (type_of% @st38)) ∧ ((type_of% @fa38_1) ∧ ((type_of% @fa38_2) ∧ (type_of% @fa47_2))))) ∧ ((((type_of% @cf15) ∧ (type_of% @ia44)) ∧ ((type_of% @fa55_0) ∧ (type_of% @ok9))) ∧ (((type_of% @ld9) ∧ (type_of% @ok55)) ∧ ((type_of% @ld55) ∧ ((type_of% @cf16) ∧ (type_of% @ia56))))))) ∧ ((((((type_of% @ok61) ∧ (type_of% @ld61)) ∧ ((type_of% @z61) ∧ (type_of% @st61))) ∧ (((type_of% @fa61_2) ∧ (type_of% @fa61_3)) ∧ ((type_of% @ex55) ∧ (type_of% @na55)))) ∧ ((((type_of% @fa61_1) ∧ (type_of% @ok4)) ∧ ((type_of% @ld4) ∧ (type_of% @bc47_1))) ∧ (((type_of% @cf17) ∧ (type_of% @bc66_0)) ∧ ((type_of% @fa31_4) ∧ ((type_of% @ok28) ∧ (type_of% @ld28)))))) ∧ (((((type_of% @ia28) ∧ (type_of% @ok68)) ∧ ((type_of% @ld68) ∧ (type_of% @z68))) ∧ (((type_of% @st68) ∧ (type_of% @fa68_0)) ∧ ((type_of% @ln9) ∧ ((type_of% @st9) ∧ (type_of% @fa68_4))))) ∧ ((((type_of% @bs28_1_0) ∧ (type_of% @ap28_28)) ∧ ((type_of% @st28) ∧ (type_of% @fa31_5))) ∧ (((type_of% @ok29) ∧ (type_of% @ld29)) ∧ ((type_of% @cf18) ∧ ((type_of% @st29) ∧ (type_of% @fa31_6)))))))) ∧ (((((((type_of% @fa38_0) ∧ (type_of% @ok34)) ∧ ((type_of% @ld34) ∧ (type_of% @fa38_3))) ∧ (((type_of% @eq4) ∧ (type_of% @ne4)) ∧ ((type_of% @fa38_5) ∧ (type_of% @ok36)))) ∧ ((((type_of% @ld36) ∧ (type_of% @fa38_6)) ∧ ((type_of% @fa38_7) ∧ (type_of% @fa38_8))) ∧ (((type_of% @ok3) ∧ (type_of% @ld3)) ∧ ((type_of% @fa38_4) ∧ ((type_of% @ok35) ∧ (type_of% @ld35)))))) ∧ (((((type_of% @ia35) ∧ (type_of% @ok72)) ∧ ((type_of% @ld72) ∧ (type_of% @cf19))) ∧ (((type_of% @ld38) ∧ (type_of% @fa31_0)) ∧ ((type_of% @cf20) ∧ ((type_of% @cf21) ∧ (type_of% @st34))))) ∧ ((((type_of% @st27) ∧ (type_of% @fa66_0)) ∧ ((type_of% @ok63) ∧ (type_of% @ld63))) ∧ (((type_of% @cf22) ∧ (type_of% @cf23)) ∧ ((type_of% @fa31_7) ∧ ((type_of% @cf24) ∧ (type_of% @fa77_1))))))) ∧ ((((((type_of% @fa77_2) ∧ (type_of% @bc38_0_1_2)) ∧ ((type_of% @fa77_0) ∧ (type_of% @cf25))) ∧ (((type_of% @z80) ∧ (type_of% @ok80)) ∧ ((type_of% @st80) ∧ (type_of% @ld80)))) ∧ ((((type_of% @z72) ∧ (type_of% @st72)) ∧ ((type_of% @fa72_0) ∧ (type_of% @ok44))) ∧ (((type_of% @ld44) ∧ (type_of% @ok59)) ∧ ((type_of% @ld59) ∧ ((type_of% @cf29) ∧ (type_of% @cf30)))))) ∧ (((((type_of% @fa51_1) ∧ (type_of% @ok5)) ∧ ((type_of% @ld5) ∧ (type_of% @cf31))) ∧ (((type_of% @fa51_3) ∧ (type_of% @bs89_1_0)) ∧ ((type_of% @bc80_0_1_3_8) ∧ ((type_of% @fa51_2) ∧ (type_of% @bc80_0_1_8))))) ∧ ((((type_of% @cv5_27) ∧ (type_of% @bc80_1_2_4_5)) ∧ ((type_of% @fa51_0) ∧ (type_of% @bs29_1_0))) ∧ (((type_of% @bc31_5) ∧ (type_of% @bs29_3_0_1_2)) ∧ ((type_of% @bc80_0_1_2) ∧ ((type_of% @bs29_2_0_1) ∧ (type_of% @bc68_0_1_2_3))))))))) ∧ ((((((((type_of% @bc31_4_5_6) ∧ (type_of% @bc31_0_7)) ∧ ((type_of% @z56) ∧ (type_of% @z85))) ∧ (((type_of% @z27) ∧ (type_of% @ok85)) ∧ ((type_of% @st85) ∧ (type_of% @z45)))) ∧ ((((type_of% @cf32) ∧ (type_of% @z94)) ∧ ((type_of% @ok94) ∧ (type_of% @st94))) ∧ (((type_of% @fa94_0) ∧ (type_of% @fa59_0)) ∧ ((type_of% @ia45) ∧ ((type_of% @ld94) ∧ (type_of% @ld85)))))) ∧ (((((type_of% @cf33) ∧ (type_of% @st45)) ∧ ((type_of% @fa94_1) ∧ (type_of% @cf34))) ∧ (((type_of% @ok56) ∧ (type_of% @ld56)) ∧ ((type_of% @fa94_2) ∧ ((type_of% @fd94_1) ∧ (type_of% @bc61_0_1_2_3))))) ∧ ((((type_of% @bs56_1_0) ∧ (type_of% @ap56_56)) ∧ ((type_of% @st56) ∧ (type_of% @bs45_1_0))) ∧ (((type_of% @ap45_45) ∧ (type_of% @bc77_1)) ∧ ((type_of% @ia29) ∧ ((type_of% @fa80_1) ∧ (type_of% @fa80_2))))))) ∧ ((((((type_of% @fa80_3) ∧ (type_of% @ap29_29)) ∧ ((type_of% @fa72_1) ∧ (type_of% @fa72_2))) ∧ (((type_of% @fa72_3) ∧ (type_of% @fa72_4)) ∧ ((type_of% @cf35) ∧ (type_of% @bc100_0_1)))) ∧ ((((type_of% @z98) ∧ (type_of% @ok98)) ∧ ((type_of% @st98) ∧ (type_of% @cf38))) ∧ (((type_of% @cf39) ∧ (type_of% @cf40)) ∧ ((type_of% @ld98) ∧ ((type_of% @bc108_0_1_2) ∧ (type_of% @z108)))))) ∧ (((((type_of% @ok108) ∧ (type_of% @st108)) ∧ ((type_of% @fa80_0) ∧ (type_of% @ok107))) ∧ (((type_of% @ld107) ∧ (type_of% @bs35_1_0)) ∧ ((type_of% @ap35_35) ∧ ((type_of% @st35) ∧ (type_of% @st4))))) ∧ ((((type_of% @fa100_2) ∧ (type_of% @cf44)) ∧ ((type_of% @fa77_6) ∧ (type_of% @fa77_7))) ∧ (((type_of% @bc38_1_2) ∧ (type_of% @cf45)) ∧ ((type_of% @cf46) ∧ ((type_of% @z55) ∧ (type_of% @st55)))))))) ∧ (((((((type_of% @cf47) ∧ (type_of% @cf48)) ∧ ((type_of% @fa80_4) ∧ (type_of% @cf49))) ∧ (((type_of% @bc72_) ∧ (type_of% @cf51)) ∧ ((type_of% @cf50) ∧ (type_of% @bc55_0_1_2_3_4)))) ∧ ((((type_of% @fa55_2) ∧ (type_of% @fa55_4)) ∧ ((type_of% @fa80_8) ∧ (type_of% @bs44_1_0))) ∧ (((type_of% @st44) ∧ (type_of% @cv3_27)) ∧ ((type_of% @bc59_0_1) ∧ ((type_of% @bc94_0_1) ∧ (type_of% @bc55_0)))))) ∧ (((((type_of% @bc94_0_1_2) ∧ (type_of% @st3)) ∧ ((type_of% @lm75) ∧ (type_of% @ex94))) ∧ (((type_of% @na94) ∧ (type_of% @cf53)) ∧ ((type_of% @cf55) ∧ ((type_of% @cf54) ∧ (type_of% @ia118))))) ∧ ((((type_of% @ap44_44) ∧ (type_of% @bc123_0_1_2_3_4_5)) ∧ ((type_of% @cf59) ∧ (type_of% @cf60))) ∧ (((type_of% @fa100_1) ∧ (type_of% @cf37)) ∧ ((type_of% @cf61) ∧ ((type_of% @bc55_) ∧ (type_of% @cf62))))))) ∧ ((((((type_of% @cf64) ∧ (type_of% @cf65)) ∧ ((type_of% @cf66) ∧ (type_of% @bc130_0_1_2_3))) ∧ (((type_of% @z130) ∧ (type_of% @ok130)) ∧ ((type_of% @st130) ∧ ((type_of% @fa68_1) ∧ (type_of% @ok41))))) ∧ ((((type_of% @ld41) ∧ (type_of% @cf68)) ∧ ((type_of% @fa100_0) ∧ (type_of% @ok23))) ∧ (((type_of% @ld23) ∧ (type_of% @cf69)) ∧ ((type_of% @cf70) ∧ ((type_of% @cf71) ∧ (type_of% @cf72)))))) ∧ (((((type_of% @fa55_3) ∧ (type_of% @fa68_2)) ∧ ((type_of% @fa55_1) ∧ (type_of% @cf73))) ∧ (((type_of% @fa68_3) ∧ (type_of% @cf74)) ∧ ((type_of% @bc72_2) ∧ ((type_of% @fa80_6) ∧ (type_of% @fa80_5))))) ∧ ((((type_of% @fa80_7) ∧ (type_of% @cf79)) ∧ ((type_of% @cf63) ∧ (type_of% @cf80))) ∧ (((type_of% @bc139_0_1_2_3) ∧ (type_of% @cf67)) ∧ ((type_of% @cf81) ∧ ((type_of% @cf85) ∧ (type_of% @cf86)))))))))) :=
 ⟨⟨⟨⟨⟨⟨⟨⟨@cf5, @eq23⟩, ⟨@ok31, @ld31⟩⟩, ⟨⟨@z31, @st31⟩, ⟨@cf9, @cf12⟩⟩⟩, ⟨⟨⟨@cv5_3, @fa47_1⟩, ⟨@ok27, @ld27⟩⟩, ⟨⟨@fa47_0, @ok45⟩, ⟨@ld45, ⟨@cf13, @ia43⟩⟩⟩⟩⟩, ⟨⟨⟨⟨@ok51, @ld51⟩, ⟨@cf14, @z38⟩⟩, ⟨⟨@ok38, @st38⟩, ⟨@fa38_1, ⟨@fa38_2, @fa47_2⟩⟩⟩⟩, ⟨⟨⟨@cf15, @ia44⟩, ⟨@fa55_0, @ok9⟩⟩, ⟨⟨@ld9, @ok55⟩, ⟨@ld55, ⟨@cf16, @ia56⟩⟩⟩⟩⟩⟩, ⟨⟨⟨⟨⟨@ok61, @ld61⟩, ⟨@z61, @st61⟩⟩, ⟨⟨@fa61_2, @fa61_3⟩, ⟨@ex55, @na55⟩⟩⟩, ⟨⟨⟨@fa61_1, @ok4⟩, ⟨@ld4, @bc47_1⟩⟩, ⟨⟨@cf17, @bc66_0⟩, ⟨@fa31_4, ⟨@ok28, @ld28⟩⟩⟩⟩⟩, ⟨⟨⟨⟨@ia28, @ok68⟩, ⟨@ld68, @z68⟩⟩, ⟨⟨@st68, @fa68_0⟩, ⟨@ln9, ⟨@st9, @fa68_4⟩⟩⟩⟩, ⟨⟨⟨@bs28_1_0, @ap28_28⟩, ⟨@st28, @fa31_5⟩⟩, ⟨⟨@ok29, @ld29⟩, ⟨@cf18, ⟨@st29, @fa31_6⟩⟩⟩⟩⟩⟩⟩, ⟨⟨⟨⟨⟨⟨@fa38_0, @ok34⟩, ⟨@ld34, @fa38_3⟩⟩, ⟨⟨@eq4, @ne4⟩, ⟨@fa38_5, @ok36⟩⟩⟩, ⟨⟨⟨@ld36, @fa38_6⟩, ⟨@fa38_7, @fa38_8⟩⟩, ⟨⟨@ok3, @ld3⟩, ⟨@fa38_4, ⟨@ok35, @ld35⟩⟩⟩⟩⟩, ⟨⟨⟨⟨@ia35, @ok72⟩, ⟨@ld72, @cf19⟩⟩, ⟨⟨@ld38, @fa31_0⟩, ⟨@cf20, ⟨@cf21, @st34⟩⟩⟩⟩, ⟨⟨⟨@st27, @fa66_0⟩, ⟨@ok63, @ld63⟩⟩, ⟨⟨@cf22, @cf23⟩, ⟨@fa31_7, ⟨@cf24, @fa77_1⟩⟩⟩⟩⟩⟩, ⟨⟨⟨⟨⟨@fa77_2, @bc38_0_1_2⟩, ⟨@fa77_0, @cf25⟩⟩, ⟨⟨@z80, @ok80⟩, ⟨@st80, @ld80⟩⟩⟩, ⟨⟨⟨@z72, @st72⟩, ⟨@fa72_0, @ok44⟩⟩, ⟨⟨@ld44, @ok59⟩, ⟨@ld59, ⟨@cf29, @cf30⟩⟩⟩⟩⟩, ⟨⟨⟨⟨@fa51_1, @ok5⟩, ⟨@ld5, @cf31⟩⟩, ⟨⟨@fa51_3, @bs89_1_0⟩, ⟨@bc80_0_1_3_8, ⟨@fa51_2, @bc80_0_1_8⟩⟩⟩⟩, ⟨⟨⟨@cv5_27, @bc80_1_2_4_5⟩, ⟨@fa51_0, @bs29_1_0⟩⟩, ⟨⟨@bc31_5, @bs29_3_0_1_2⟩, ⟨@bc80_0_1_2, ⟨@bs29_2_0_1, @bc68_0_1_2_3⟩⟩⟩⟩⟩⟩⟩⟩, ⟨⟨⟨⟨⟨⟨⟨@bc31_4_5_6, @bc31_0_7⟩, ⟨@z56, @z85⟩⟩, ⟨⟨@z27, @ok85⟩, ⟨@st85, @z45⟩⟩⟩, ⟨⟨⟨@cf32, @z94⟩, ⟨@ok94, @st94⟩⟩, ⟨⟨@fa94_0, @fa59_0⟩, ⟨@ia45, ⟨@ld94, @ld85⟩⟩⟩⟩⟩, ⟨⟨⟨⟨@cf33, @st45⟩, ⟨@fa94_1, @cf34⟩⟩, ⟨⟨@ok56, @ld56⟩, ⟨@fa94_2, ⟨@fd94_1, @bc61_0_1_2_3⟩⟩⟩⟩, ⟨⟨⟨@bs56_1_0, @ap56_56⟩, ⟨@st56, @bs45_1_0⟩⟩, ⟨⟨@ap45_45, @bc77_1⟩, ⟨@ia29, ⟨@fa80_1, @fa80_2⟩⟩⟩⟩⟩⟩, ⟨⟨⟨⟨⟨@fa80_3, @ap29_29⟩, ⟨@fa72_1, @fa72_2⟩⟩, ⟨⟨@fa72_3, @fa72_4⟩, ⟨@cf35, @bc100_0_1⟩⟩⟩, ⟨⟨⟨@z98, @ok98⟩, ⟨@st98, @cf38⟩⟩, ⟨⟨@cf39, @cf40⟩, ⟨@ld98, ⟨@bc108_0_1_2, @z108⟩⟩⟩⟩⟩, ⟨⟨⟨⟨@ok108, @st108⟩, ⟨@fa80_0, @ok107⟩⟩, ⟨⟨@ld107, @bs35_1_0⟩, ⟨@ap35_35, ⟨@st35, @st4⟩⟩⟩⟩, ⟨⟨⟨@fa100_2, @cf44⟩, ⟨@fa77_6, @fa77_7⟩⟩, ⟨⟨@bc38_1_2, @cf45⟩, ⟨@cf46, ⟨@z55, @st55⟩⟩⟩⟩⟩⟩⟩, ⟨⟨⟨⟨⟨⟨@cf47, @cf48⟩, ⟨@fa80_4, @cf49⟩⟩, ⟨⟨@bc72_, @cf51⟩, ⟨@cf50, @bc55_0_1_2_3_4⟩⟩⟩, ⟨⟨⟨@fa55_2, @fa55_4⟩, ⟨@fa80_8, @bs44_1_0⟩⟩, ⟨⟨@st44, @cv3_27⟩, ⟨@bc59_0_1, ⟨@bc94_0_1, @bc55_0⟩⟩⟩⟩⟩, ⟨⟨⟨⟨@bc94_0_1_2, @st3⟩, ⟨@lm75, @ex94⟩⟩, ⟨⟨@na94, @cf53⟩, ⟨@cf55, ⟨@cf54, @ia118⟩⟩⟩⟩, ⟨⟨⟨@ap44_44, @bc123_0_1_2_3_4_5⟩, ⟨@cf59, @cf60⟩⟩, ⟨⟨@fa100_1, @cf37⟩, ⟨@cf61, ⟨@bc55_, @cf62⟩⟩⟩⟩⟩⟩, ⟨⟨⟨⟨⟨@cf64, @cf65⟩, ⟨@cf66, @bc130_0_1_2_3⟩⟩, ⟨⟨@z130, @ok130⟩, ⟨@st130, ⟨@fa68_1, @ok41⟩⟩⟩⟩, ⟨⟨⟨@ld41, @cf68⟩, ⟨@fa100_0, @ok23⟩⟩, ⟨⟨@ld23, @cf69⟩, ⟨@cf70, ⟨@cf71, @cf72⟩⟩⟩⟩⟩, ⟨⟨⟨⟨@fa55_3, @fa68_2⟩, ⟨@fa55_1, @cf73⟩⟩, ⟨⟨@fa68_3, @cf74⟩, ⟨@bc72_2, ⟨@fa80_6, @fa80_5⟩⟩⟩⟩, ⟨⟨⟨@fa80_7, @cf79⟩, ⟨@cf63, @cf80⟩⟩, ⟨⟨@bc139_0_1_2_3, @cf67⟩, ⟨@cf81, ⟨@cf85, @cf86⟩⟩⟩⟩⟩⟩⟩⟩⟩
theorem V {a b : Prop} (x : a) (y : b) : a ∧ b := ⟨x, y⟩
theorem rN {p q r : Prop} (hq : q) (fs : r) (f : r → q → p:= by intro fs hq; (repeat' (first | ((with_reducible refine st1 ?_); (conv => whnf); (with_reducible refine ⟨?_⟩)) | ((with_reducible refine retW_intro rfl ?_); (conv => arg 2; whnf)) | ((with_reducible first | refine iB ?_ ?_ | refine gWt ?_ ?_ | refine gWf ?_ ?_) <;> intro hb <;> (try simp only [hb])) | (simp only [B, F, reduceLT, reduceLeDiff, reduceEqDiff, reduceAdd, reduceMul, reduceSub, ↓reduceIte, eq_self, fs]))); exact hq) : p := f fs hq
theorem rN0 {p q : Prop} (hq : q) (f : q → p:= by intro hq; (repeat' (first | ((with_reducible refine st1 ?_); (conv => whnf); (with_reducible refine ⟨?_⟩)) | ((with_reducible refine retW_intro rfl ?_); (conv => arg 2; whnf)) | ((with_reducible first | refine iB ?_ ?_ | refine gWt ?_ ?_ | refine gWf ?_ ?_) <;> intro hb <;> (try simp only [hb])) | (simp only [B, F, reduceLT, reduceLeDiff, reduceEqDiff, reduceAdd, reduceMul, reduceSub, ↓reduceIte, eq_self]))); exact hq) : p := f hq
theorem rT {p q r : Prop} (hq : q) (fs : r) (f : r → q → p:= by intro fs hq; (repeat' (first | ((with_reducible refine st1 ?_); (conv => whnf); (with_reducible refine ⟨?_⟩)) | ((with_reducible refine st_dw ?_ rfl rfl ?_ ?_); exact rfl; kernel_rfl; (conv => arg 5; whnf); (conv => arg 3; whnf)) | ((with_reducible refine retW_intro rfl ?_); (conv => arg 2; whnf)) | ((with_reducible first | refine iB ?_ ?_ | refine gWt ?_ ?_ | refine gWf ?_ ?_ | refine gXt ?_ ?_ | refine gXf ?_ ?_) <;> intro hb <;> (try simp only [hb])) | ((with_reducible show drawI _ _ _ _ _ _ _ _ _); first | ((with_reducible refine kI_rd ?_ ?_); exact rfl) | ((with_reducible apply kI_rg); exact rfl; exact rfl) | ((with_reducible refine kI_cv ?_ ?_ ?_); exact rfl; kernel_rfl) | ((with_reducible apply kI_al); exact rfl; exact rfl) | ((with_reducible refine kI_ex ?_ ?_ ?_ ?_ ?_); exact rfl; kernel_rfl; exact rfl) | ((with_reducible apply kI_eg); exact rfl; kernel_rfl; exact rfl) | ((with_reducible refine kI_nl ?_ ?_))) | ((with_reducible show eOk _ _ _ _ _ _); first | (exact eok_nil) | (refine ke_rd ?_ ?_ ?_; exact rfl) | (apply ke_rg; exact rfl; exact rfl) | (refine ke_cv ?_ ?_ ?_ ?_; exact rfl; kernel_rfl) | (apply ke_fl; exact rfl) | (apply ke_al; exact rfl; exact rfl)) | ((with_reducible refine freshIs_new ?_); kernel_rfl) | (simp only [B, xB, F, reduceLT, reduceLeDiff, reduceEqDiff, reduceAdd, reduceMul, reduceSub, ↓reduceIte, eq_self, fs]))); exact hq) : p := f fs hq
theorem rT0 {p q : Prop} (hq : q) (f : q → p:= by intro hq; (repeat' (first | ((with_reducible refine st1 ?_); (conv => whnf); (with_reducible refine ⟨?_⟩)) | ((with_reducible refine st_dw ?_ rfl rfl ?_ ?_); exact rfl; kernel_rfl; (conv => arg 5; whnf); (conv => arg 3; whnf)) | ((with_reducible refine retW_intro rfl ?_); (conv => arg 2; whnf)) | ((with_reducible first | refine iB ?_ ?_ | refine gWt ?_ ?_ | refine gWf ?_ ?_ | refine gXt ?_ ?_ | refine gXf ?_ ?_) <;> intro hb <;> (try simp only [hb])) | ((with_reducible show drawI _ _ _ _ _ _ _ _ _); first | ((with_reducible refine kI_rd ?_ ?_); exact rfl) | ((with_reducible apply kI_rg); exact rfl; exact rfl) | ((with_reducible refine kI_cv ?_ ?_ ?_); exact rfl; kernel_rfl) | ((with_reducible apply kI_al); exact rfl; exact rfl) | ((with_reducible refine kI_ex ?_ ?_ ?_ ?_ ?_); exact rfl; kernel_rfl; exact rfl) | ((with_reducible apply kI_eg); exact rfl; kernel_rfl; exact rfl) | ((with_reducible refine kI_nl ?_ ?_))) | ((with_reducible show eOk _ _ _ _ _ _); first | (exact eok_nil) | (refine ke_rd ?_ ?_ ?_; exact rfl) | (apply ke_rg; exact rfl; exact rfl) | (refine ke_cv ?_ ?_ ?_ ?_; exact rfl; kernel_rfl) | (apply ke_fl; exact rfl) | (apply ke_al; exact rfl; exact rfl)) | ((with_reducible refine freshIs_new ?_); kernel_rfl) | (simp only [B, xB, F, reduceLT, reduceLeDiff, reduceEqDiff, reduceAdd, reduceMul, reduceSub, ↓reduceIte, eq_self]))); exact hq) : p := f hq
theorem sT {p : Prop} (h : p:= by first | (simp only [B, xB, F, reduceLT, reduceLeDiff, reduceEqDiff, reduceAdd, reduceMul, reduceSub, ↓reduceIte, eq_self]; done) | (simp only [B, xB, F, reduceLT, reduceLeDiff, reduceEqDiff, reduceAdd, reduceMul, reduceSub, ↓reduceIte, eq_self]; with_reducible assumption)) : p := h
theorem ord14_0 : drawO P (regionOf (codeI (bodyC Try.f14) [0, 1])) [0, 1, 3, 4, 8, 5, 6, 2, 7, 9] = true:= by kernel_rfl
theorem ord14_1 : drawO P (regionOf (codeI (bodyC Try.f14) [0, 0, 1, 1, 1, 1, 1, 1, 1, 0, 1, 0, 1, 1, 1, 1])) [0, 1, 2, 4, 5, 3, 6, 7, 8, 9, 10] = true:= by kernel_rfl
theorem ord14_2 : drawO P (regionOf (codeI (bodyC Try.f14) [0, 0, 1, 1, 1, 1, 1, 1, 1, 1, 1, 1, 1, 0, 1, 0, 1, 1, 1, 1])) [0, 1, 3, 4, 5, 9, 11, 12, 6, 10, 13, 2, 7, 8, 14, 15] = true:= by kernel_rfl
theorem ord20_0 : drawO P (regionOf (codeI (bodyC Try.f20) [0, 0, 1, 0, 1, 1, 1, 1, 1, 1, 1, 1, 1, 1, 1, 1])) [0, 1, 2, 3, 4, 6, 7, 8, 9, 5, 10, 11, 12, 13] = true:= by kernel_rfl
theorem ord69_0 : drawO P (regionOf (codeI (bodyC Try.f69) [0, 1])) [0, 1, 2, 3, 4, 5, 6, 7, 8, 9, 10, 11, 12, 15, 16, 18, 13, 14, 17, 19] = true:= by kernel_rfl
abbrev M64 : Nat := 18446744073709551616
def Og (h h' : H) (S : List Nat) : Prop := Only h h' S ∧ h'.g = h.g
theorem Og.refl (h : H) (S : List Nat) : Og h h S := ⟨Only.refl _ _, rfl⟩
theorem Og.t {h h1 h2 : H} (a : Og h h1 []) (b : Og h1 h2 []) : Og h h2 [] := ⟨⟨Nat.le_trans a.1.1 b.1.1, fun c hc hn => (b.1.2 c (Nat.lt_of_lt_of_le hc a.1.1) (by simp)).trans (a.1.2 c hc (by simp))⟩, b.2.trans a.2⟩
theorem g_sts (h : H) (b o : Nat) (l : List AV) : (h.sts b o l).g = h.g:= by unfold H.sts; split <;> rfl
theorem Og.new {h h1 : H} {S : List Nat} (a : Og h h1 S) (t : TypeId) (l : List AV) : Og h (h1.newCells t l) S := ⟨a.1.new t l, a.2⟩
theorem Og.sts {h h1 : H} {S : List Nat} {b o : Nat} {l : List AV} (a : Og h h1 S) (hb : b ∈ S ∨ h.nx ≤ b) : Og h (h1.sts b o l) S := ⟨a.1.sts hb, (g_sts _ _ _ _).trans a.2⟩
theorem Og.alloc {h h1 : H} {S : List Nat} (a : Og h h1 S) (o : AObj) : Og h (h1.alloc o) S := ⟨⟨Nat.le_succ_of_le a.1.1, fun c hc hn => by
 show (h1.t.set h1.nx (some o)).get c = _
 rw [T.get_set, if_neg (by have := a.1.1; omega)]; exact a.1.2 c hc hn⟩, a.2⟩
theorem Og.s1 {h h1 h2 : H} {S : List Nat} (a : Og h h1 []) (b : Og h1 h2 S) : Og h h2 S := ⟨⟨Nat.le_trans a.1.1 b.1.1, fun c hc hn => (b.1.2 c (Nat.lt_of_lt_of_le hc a.1.1) hn).trans (a.1.2 c hc (by simp))⟩, b.2.trans a.2⟩
theorem Og.s2 {h h1 h2 : H} {S : List Nat} (a : Og h h1 S) (b : Og h1 h2 S) : Og h h2 S := ⟨⟨Nat.le_trans a.1.1 b.1.1, fun c hc hn => (b.1.2 c (Nat.lt_of_lt_of_le hc a.1.1) hn).trans (a.1.2 c hc hn)⟩, b.2.trans a.2⟩
theorem kc {h h' : H} {S : List Nat} {b i : Nat} {v : AV} (c : cellAt h b i = some v) (o : Og h h' S) (hb : b < h.nx) (hn : b ∉ S) : cellAt h' b i = some v:= by rw [cellAt_of_get (o.1.2 b hb hn)]; exact c
theorem kw {h h' : H} {S : List Nat} {b : Nat} (c : wrAt h b = true) (o : Og h h' S) (hb : b < h.nx) (hn : b ∉ S) : wrAt h' b = true:= by rw [wrAt_of_get (o.1.2 b hb hn)]; exact c
def SaysG (h : H) (r : AV) (v : AV) (h' : H) : Prop := v = r ∧ Og h h' []
end
end Go.Proofs.Ytnedigoajoflaaa.M

namespace Go.Proofs.Ytnedigoajoflaaa.M
open Go Go.AX
noncomputable section
set_option maxRecDepth 100000
structure KV where
 key : List Nat
 val : List Nat
 cre : Nat
 mod : Nat
 ver : Nat
structure Rec where
 main : Nat
 sub : Nat
 kv : KV
 tomb : Bool
structure Op where
 kind : Int
 key : List Nat
 fin : List Nat
 val : List Nat
 rev : Nat
 limit : Int
 count : Bool
 keys : Bool
 prev : Bool
structure Cmp where
 key : List Nat
 what : Int
 how : Int
 n : Nat
 val : List Nat
def KV.cs (x : KV) : List AV := [.str x.key, .str x.val, .int .u64 (.ofNat x.cre), .int .u64 (.ofNat x.mod), .int .u64 (.ofNat x.ver)]
def Rec.cs (x : Rec) : List AV := [.int .u64 (.ofNat x.main), .int .u64 (.ofNat x.sub), .str x.kv.key, .str x.kv.val, .int .u64 (.ofNat x.kv.cre), .int .u64 (.ofNat x.kv.mod), .int .u64 (.ofNat x.kv.ver), .bool x.tomb]
def Op.cs (x : Op) : List AV := [.int .i64 x.kind, .str x.key, .str x.fin, .str x.val, .int .u64 (.ofNat x.rev), .int .i64 x.limit, .bool x.count, .bool x.keys, .bool x.prev]
def Cmp.cs (x : Cmp) : List AV := [.str x.key, .int .i64 x.what, .int .i64 x.how, .int .u64 (.ofNat x.n), .str x.val]
section
variable {h : H} {t : TypeId} {x y : Operand}
theorem b_lssS (a b : List Nat) : binR P h .lss t x y (.str a) (.str b) = .val (.bool (listLtB a b)) h:= by simp only [binR, apartA, binA, strB, optV]
theorem b_gtrS (a b : List Nat) : binR P h .gtr t x y (.str a) (.str b) = .val (.bool (!(listLtB a b || listEqB a b))) h:= by simp only [binR, apartA, binA, strB, optV]
theorem b_geqS (a b : List Nat) : binR P h .geq t x y (.str a) (.str b) = .val (.bool (!listLtB a b)) h:= by simp only [binR, apartA, binA, strB, optV]
end
theorem ez : bytesOf { data := #[] } = [] := rfl
theorem e00 : bytesOf { data := #[0] } = [0] := rfl
def liesB (k key fin : List Nat) : Bool := if fin = [] then decide (k = key) else (!listLtB k key && (decide (fin = [0]) || listLtB k fin))
theorem liesC (h : H) (k key fin : List Nat) : PushC P (.enter 34 [.str k, .str key, .str fin] h) (SaysG h (.bool (liesB k key fin))) := by
 unfold liesB
 by_cases q : fin = []
 ·have d1 : decide (fin = []) = true := decide_eq_true q
  rw [if_pos q]
  refine pushC_of_codeW (fn := Try.f34) (c := bodyC Try.f34) Try.func34 rfl ?_
  show codeW P 34 24 none _ _ _ _ _
  refine codeW_root ?_
  repeat' (first | ((with_reducible refine st1 ?_); (conv => whnf); (with_reducible refine ⟨?_⟩)) | ((with_reducible refine retW_intro rfl ?_); (conv => arg 2; whnf)) | ((with_reducible first | refine iB ?_ ?_ | refine gWt ?_ ?_ | refine gWf ?_ ?_) <;> intro hb <;> (try simp only [hb])) | (simp only [B, F, reduceLT, reduceLeDiff, reduceEqDiff, reduceAdd, reduceMul, reduceSub, ↓reduceIte, eq_self, ez, d1, @b_geqS, @b_lssS]))
  exact ⟨rfl, Og.refl _ _⟩
 ·have d1 : decide (fin = []) = false := decide_eq_false q
  rw [if_neg q]
  cases q2 : listLtB k key with
  | true =>
   refine pushC_of_codeW (fn := Try.f34) (c := bodyC Try.f34) Try.func34 rfl ?_
   show codeW P 34 24 none _ _ _ _ _
   refine codeW_root ?_
   repeat' (first | ((with_reducible refine st1 ?_); (conv => whnf); (with_reducible refine ⟨?_⟩)) | ((with_reducible refine retW_intro rfl ?_); (conv => arg 2; whnf)) | ((with_reducible first | refine iB ?_ ?_ | refine gWt ?_ ?_ | refine gWf ?_ ?_) <;> intro hb <;> (try simp only [hb])) | (simp only [B, F, reduceLT, reduceLeDiff, reduceEqDiff, reduceAdd, reduceMul, reduceSub, ↓reduceIte, eq_self, ez, e00, d1, @b_geqS, @b_lssS, q2, Bool.not_true]))
   exact ⟨rfl, Og.refl _ _⟩
  | false =>
   by_cases q3 : fin = [0]
   ·have d3 : decide (fin = [0]) = true := decide_eq_true q3
    refine pushC_of_codeW (fn := Try.f34) (c := bodyC Try.f34) Try.func34 rfl ?_
    show codeW P 34 24 none _ _ _ _ _
    refine codeW_root ?_
    repeat' (first | ((with_reducible refine st1 ?_); (conv => whnf); (with_reducible refine ⟨?_⟩)) | ((with_reducible refine retW_intro rfl ?_); (conv => arg 2; whnf)) | ((with_reducible first | refine iB ?_ ?_ | refine gWt ?_ ?_ | refine gWf ?_ ?_) <;> intro hb <;> (try simp only [hb])) | (simp only [B, F, reduceLT, reduceLeDiff, reduceEqDiff, reduceAdd, reduceMul, reduceSub, ↓reduceIte, eq_self, ez, e00, d1, d3, @b_geqS, @b_lssS, q2, Bool.not_false]))
    exact ⟨rfl, Og.refl _ _⟩
   ·have d3 : decide (fin = [0]) = false := decide_eq_false q3
    refine pushC_of_codeW (fn := Try.f34) (c := bodyC Try.f34) Try.func34 rfl ?_
    show codeW P 34 24 none _ _ _ _ _
    refine codeW_root ?_
    repeat' (first | ((with_reducible refine st1 ?_); (conv => whnf); (with_reducible refine ⟨?_⟩)) | ((with_reducible refine retW_intro rfl ?_); (conv => arg 2; whnf)) | ((with_reducible first | refine iB ?_ ?_ | refine gWt ?_ ?_ | refine gWf ?_ ?_) <;> intro hb <;> (try simp only [hb])) | (simp only [B, F, reduceLT, reduceLeDiff, reduceEqDiff, reduceAdd, reduceMul, reduceSub, ↓reduceIte, eq_self, ez, e00, d1, d3, @b_geqS, @b_lssS, q2, Bool.not_false]))
    exact ⟨rfl, Og.refl _ _⟩
def bareB (o : Op) : Bool := decide (o.rev = 0) && (o.limit == .ofNat 0) && !o.count && !o.keys
def kindB (o : Op) : Bool :=
 if o.kind == .ofNat 0 then decide (o.val = []) && !o.prev && decide (o.rev ≤ 1099511627776) && decide (.ofNat 0 ≤ o.limit) && decide (o.limit ≤ .ofNat 1000)
 else if o.kind == .ofNat 1 then bareB o && decide (o.fin = []) && decide (o.val.length ≤ 32)
 else if o.kind == .ofNat 2 then bareB o && decide (o.val = []) else false
def mayB (o : Op) : Bool := kindB o && !decide (o.key = []) && decide (o.key.length ≤ 16) && decide (o.fin.length ≤ 16)
set_option maxHeartbeats 4000000 in
theorem mayC (h : H) (o : Op) : PushC P (.enter 58 [.agg o.cs] h) (SaysG h (.bool (mayB o))) := by
 unfold Op.cs
 refine pushC_of_codeW (fn := Try.f58) (c := bodyC Try.f58) Try.func58 rfl ?_
 show codeW P 58 90 none _ _ _ _ _
 refine codeW_root ?_
 repeat' (first | ((with_reducible refine st1 ?_); (conv => whnf); (with_reducible refine ⟨?_⟩)) | ((with_reducible refine retW_intro rfl ?_); (conv => arg 2; whnf)) | ((with_reducible first | refine iB ?_ ?_ | refine gWt ?_ ?_ | refine gWf ?_ ?_) <;> intro hb <;> (try simp only [hb])) | (simp only [B, F, reduceLT, reduceLeDiff, reduceEqDiff, reduceAdd, reduceMul, reduceSub, ↓reduceIte, eq_self, ez]))
 all_goals refine ⟨?_, (Og.refl _ _).new _ _⟩
 all_goals simp only [mayB, kindB, bareB, *, Bool.and_true, Bool.true_and, Bool.false_and, Bool.and_false, if_true, if_false, Bool.false_eq_true, Bool.and_self]
end
end Go.Proofs.Ytnedigoajoflaaa.M

namespace Go.Proofs.Ytnedigoajoflaaa.M
open Go Go.AX
noncomputable section
set_option maxRecDepth 100000
theorem len0 {l : List Nat} : (l.length < 1) = (l = []) := by
 rw [eq_iff_iff]
 cases l <;> simp
set_option maxHeartbeats 8000000 in
theorem rMayC (h : H) (o : Op) : PushC P (.enter 71 [.agg o.cs] h) (SaysG h (.bool (mayB o))) := by
 unfold Op.cs
 refine pushC_of_codeW (fn := Try.f71) (c := bodyC Try.f71) Try.func71 rfl ?_
 show codeW P 71 95 none _ _ _ _ _
 refine codeW_root ?_
 repeat' (first | ((with_reducible refine st1 ?_); (conv => whnf); (with_reducible refine ⟨?_⟩)) | ((with_reducible refine retW_intro rfl ?_); (conv => arg 2; whnf)) | ((with_reducible first | refine iB ?_ ?_ | refine gWt ?_ ?_ | refine gWf ?_ ?_) <;> intro hb <;> (try simp only [hb])) | (simp only [B, F, reduceLT, reduceLeDiff, reduceEqDiff, reduceAdd, reduceMul, reduceSub, ↓reduceIte, eq_self, ez]))
 all_goals refine ⟨congrArg AV.bool ?_, (Og.refl _ _).new _ _⟩
 all_goals (have l0 := len0 (l := o.key); rw [Bool.eq_iff_iff]; simp only [mayB, kindB, bareB]; grind)
def cmpB (c : Cmp) : Bool :=
 !decide (c.key = []) && decide (c.key.length ≤ 16) && decide (.ofNat 0 ≤ c.what) && decide (c.what ≤ .ofNat 3) && decide (.ofNat 0 ≤ c.how) && decide (c.how ≤ .ofNat 3) &&
  (if c.what == .ofNat 3 then decide (c.n = 0) && decide (c.val.length ≤ 32) else decide (c.val = []))
set_option maxHeartbeats 8000000 in
theorem cMayC (h : H) (c : Cmp) : PushC P (.enter 61 [.agg c.cs] h) (SaysG h (.bool (cmpB c))) := by
 unfold Cmp.cs
 refine pushC_of_codeW (fn := Try.f61) (c := bodyC Try.f61) Try.func61 rfl ?_
 show codeW P 61 63 none _ _ _ _ _
 refine codeW_root ?_
 repeat' (first | ((with_reducible refine st1 ?_); (conv => whnf); (with_reducible refine ⟨?_⟩)) | ((with_reducible refine st_dw ?_ rfl rfl ?_ ?_); exact rfl; kernel_rfl; (conv => arg 5; whnf); (conv => arg 3; whnf)) | ((with_reducible refine retW_intro rfl ?_); (conv => arg 2; whnf)) | ((with_reducible first | refine iB ?_ ?_ | refine gWt ?_ ?_ | refine gWf ?_ ?_ | refine gXt ?_ ?_ | refine gXf ?_ ?_) <;> intro hb <;> (try simp only [hb])) | ((with_reducible show drawI _ _ _ _ _ _ _ _ _); first | ((with_reducible refine kI_rd ?_ ?_); exact rfl) | ((with_reducible apply kI_rg); exact rfl; exact rfl) | ((with_reducible refine kI_cv ?_ ?_ ?_); exact rfl; kernel_rfl) | ((with_reducible apply kI_al); exact rfl; exact rfl) | ((with_reducible refine kI_ex ?_ ?_ ?_ ?_ ?_); exact rfl; kernel_rfl; exact rfl) | ((with_reducible apply kI_eg); exact rfl; kernel_rfl; exact rfl) | ((with_reducible refine kI_nl ?_ ?_))) | ((with_reducible show eOk _ _ _ _ _ _); first | (exact eok_nil) | (refine ke_rd ?_ ?_ ?_; exact rfl) | (apply ke_rg; exact rfl; exact rfl) | (refine ke_cv ?_ ?_ ?_ ?_; exact rfl; kernel_rfl) | (apply ke_fl; exact rfl) | (apply ke_al; exact rfl; exact rfl)) | ((with_reducible refine freshIs_new ?_); kernel_rfl) | (simp only [B, xB, F, reduceLT, reduceLeDiff, reduceEqDiff, reduceAdd, reduceMul, reduceSub, ↓reduceIte, eq_self, ez]))
 all_goals refine ⟨congrArg AV.bool ?_, (Og.refl _ _).new _ _⟩
 all_goals (have l0 := len0 (l := c.key); have l2 : c.val = [] → c.val.length ≤ 32 := (fun e => by rw [e]; simp); rw [Bool.eq_iff_iff]; simp only [cmpB]; grind)
set_option maxHeartbeats 8000000 in
theorem rcMayC (h : H) (c : Cmp) : PushC P (.enter 72 [.agg c.cs] h) (SaysG h (.bool (cmpB c))) := by
 unfold Cmp.cs
 refine pushC_of_codeW (fn := Try.f72) (c := bodyC Try.f72) Try.func72 rfl ?_
 show codeW P 72 48 none _ _ _ _ _
 refine codeW_root ?_
 repeat' (first | ((with_reducible refine st1 ?_); (conv => whnf); (with_reducible refine ⟨?_⟩)) | ((with_reducible refine retW_intro rfl ?_); (conv => arg 2; whnf)) | ((with_reducible first | refine iB ?_ ?_ | refine gWt ?_ ?_ | refine gWf ?_ ?_) <;> intro hb <;> (try simp only [hb])) | (simp only [B, F, reduceLT, reduceLeDiff, reduceEqDiff, reduceAdd, reduceMul, reduceSub, ↓reduceIte, eq_self, ez]))
 all_goals refine ⟨congrArg AV.bool ?_, (Og.refl _ _).new _ _⟩
 all_goals (have l0 := len0 (l := c.key); have l2 : c.val = [] → c.val.length ≤ 32 := (fun e => by rw [e]; simp); rw [Bool.eq_iff_iff]; simp only [cmpB]; grind)
#print axioms rcMayC
end
end Go.Proofs.Ytnedigoajoflaaa.M

namespace Go.Proofs.Ytnedigoajoflaaa.M
open Go Go.AX
noncomputable section
set_option maxRecDepth 100000
theorem flat_at {α : Type} {cs : α → List AV} {sz : Nat} (hs : ∀ x, (cs x).length = sz) : ∀ {l : List α} {i : Nat} {x : α}, l[i]? = some x → ∀ k, k < sz → (l.flatMap cs)[i * sz + k]? = (cs x)[k]? ∧ i * sz + k < (l.flatMap cs).length
 | [], i, x, h => by simp at h
 | a :: l, 0, x, h => fun k hk => by
  simp at h; subst h
  rw [List.flatMap_cons, Nat.zero_mul, Nat.zero_add, List.getElem?_append_left (by rw [hs]; exact hk), List.length_append, hs]
  exact ⟨rfl, by omega⟩
 | a :: l, i + 1, x, h => fun k hk => by
  obtain ⟨h1, h2⟩ := flat_at hs (l := l) (i := i) (x := x) (by simpa using h) k hk
  have e : (i + 1) * sz + k = sz + (i * sz + k):= by rw [Nat.add_mul, Nat.one_mul]; omega
  rw [List.flatMap_cons, e, List.getElem?_append_right (by rw [hs]; omega), List.length_append, hs, Nat.add_sub_cancel_left]
  exact ⟨h1, by omega⟩
theorem flat_len {α : Type} {cs : α → List AV} {sz : Nat} (hs : ∀ x, (cs x).length = sz) : ∀ l : List α, (l.flatMap cs).length = l.length * sz
 | [] => by simp
 | a :: l => by rw [List.flatMap_cons, List.length_append, hs, flat_len hs l, List.length_cons, Nat.add_mul, Nat.one_mul]; omega
theorem cells_at {α : Type} {cs : α → List AV} {sz : Nat} (hs : ∀ x, (cs x).length = sz) {h : H} {b o n : Nat} {cap : Cap} {l : List α} (sl : SliceAt h (.slice b o n cap) n (l.flatMap cs)) {i : Nat} {x : α} (hx : l[i]? = some x) {k : Nat} (hk : k < sz) : cellAt h b (o + (i * sz + k)) = (cs x)[k]? := by
 obtain ⟨h1, h2⟩ := flat_at hs hx k hk
 cases sl with
 | cell b o n cap cs' hb hc =>
  have := hc _ h2
  rw [h1] at this
  exact this
theorem Cmp.len (x : Cmp) : x.cs.length = 5 := rfl
theorem Op.len (x : Op) : x.cs.length = 9 := rfl
theorem Cmp.at {h : H} {b o n : Nat} {cap : Cap} {l : List Cmp} (sl : SliceAt h (.slice b o n cap) n (l.flatMap Cmp.cs)) {i : Nat} {x : Cmp} (hx : l[i]? = some x) : cellAt h b (o + i * 5) = some (.str x.key) ∧ cellAt h b (o + (i * 5 + 1)) = some (.int .i64 x.what) ∧ cellAt h b (o + (i * 5 + 2)) = some (.int .i64 x.how) ∧ cellAt h b (o + (i * 5 + 3)) = some (.int .u64 (.ofNat x.n)) ∧ cellAt h b (o + (i * 5 + 4)) = some (.str x.val) := by
 have g : ∀ k, k < 5 → cellAt h b (o + (i * 5 + k)) = x.cs[k]? := fun k hk => cells_at Cmp.len sl hx hk
 exact ⟨g 0 (by omega), g 1 (by omega), g 2 (by omega), g 3 (by omega), g 4 (by omega)⟩
theorem Op.at {h : H} {b o n : Nat} {cap : Cap} {l : List Op} (sl : SliceAt h (.slice b o n cap) n (l.flatMap Op.cs)) {i : Nat} {x : Op} (hx : l[i]? = some x) : cellAt h b (o + i * 9) = some (.int .i64 x.kind) ∧ cellAt h b (o + (i * 9 + 1)) = some (.str x.key) ∧ cellAt h b (o + (i * 9 + 2)) = some (.str x.fin) ∧ cellAt h b (o + (i * 9 + 3)) = some (.str x.val) ∧ cellAt h b (o + (i * 9 + 4)) = some (.int .u64 (.ofNat x.rev)) ∧ cellAt h b (o + (i * 9 + 5)) = some (.int .i64 x.limit) ∧ cellAt h b (o + (i * 9 + 6)) = some (.bool x.count) ∧ cellAt h b (o + (i * 9 + 7)) = some (.bool x.keys) ∧ cellAt h b (o + (i * 9 + 8)) = some (.bool x.prev) := by
 have g : ∀ k, k < 9 → cellAt h b (o + (i * 9 + k)) = x.cs[k]? := fun k hk => cells_at Op.len sl hx hk
 exact ⟨g 0 (by omega), g 1 (by omega), g 2 (by omega), g 3 (by omega), g 4 (by omega), g 5 (by omega), g 6 (by omega), g 7 (by omega), g 8 (by omega)⟩
theorem u28a : P.underlying 28 = some (.slice 68):= by kernel_rfl
theorem u29a : P.underlying 29 = some (.slice 80):= by kernel_rfl
theorem bxC (h : H) (c : Cmp) : boxR h 68 c.cs = .val (.ptr h.nx 0) (h.newCells 68 c.cs) := boxR_ok rfl
theorem bxO (h : H) (c : Op) : boxR h 80 c.cs = .val (.ptr h.nx 0) (h.newCells 80 c.cs) := boxR_ok rfl
theorem mayNotC (h : H) (c : Cmp) : PushC P (.enter 78 [.agg c.cs] h) (SaysG h (.bool (!cmpB c))) := by
 have hr : (h.newCells 68 c.cs).row h.nx 0 5 = some c.cs := row_ok (o := 0) (cs := c.cs) (fun j hj => by rw [cellAt_new, Nat.zero_add, if_pos rfl]) (by simp [Cmp.cs])
 refine pushC_of_codeW (fn := Try.f78) (c := bodyC Try.f78) Try.func78 rfl ?_
 show codeW P 78 6 none _ _ _ _ _
 refine codeW_root ?_
 refine rN ?_ (V bxC<|hr)
 refine ((cMayC (h.newCells 68 c.cs) c).call P).mono P ?_
 rintro _ h2 ⟨rfl, o2⟩
 refine rN0 ?_
 exact ⟨rfl, ((Og.refl _ _).new _ _).t o2⟩
theorem opNotC (h : H) (c : Op) : PushC P (.enter 57 [.agg c.cs] h) (SaysG h (.bool (!mayB c))) := by
 have hr : (h.newCells 80 c.cs).row h.nx 0 9 = some c.cs := row_ok (o := 0) (cs := c.cs) (fun j hj => by rw [cellAt_new, Nat.zero_add, if_pos rfl]) (by simp [Op.cs])
 refine pushC_of_codeW (fn := Try.f57) (c := bodyC Try.f57) Try.func57 rfl ?_
 show codeW P 57 6 none _ _ _ _ _
 refine codeW_root ?_
 refine rN ?_ (V bxO<|hr)
 refine ((mayC (h.newCells 80 c.cs) c).call P).mono P ?_
 rintro _ h2 ⟨rfl, o2⟩
 refine rN0 ?_
 exact ⟨rfl, ((Og.refl _ _).new _ _).t o2⟩
structure cixI (h0 : H) (va fv : AV) (l : List Cmp) (pr : Cmp → Bool) (m : Nat) (ds : List Nat) (tm : T AV) (h : H) (i : Nat) : Prop where
 ds : ds = []
 nn : m = l.length - i
 ii : i ≤ l.length
 t0 : tm.get 0 = some va
 t1 : tm.get 1 = some fv
 t7 : tm.get 7 = some (.int .i64 (.ofNat l.length))
 t8 : tm.get 8 = some (.int .i64 (.ofNat i))
 no : ∀ j x, j < i → l[j]? = some x → pr x = false
 oo : Og h0 h []
theorem cixC (h0 : H) (va fv : AV) (l : List Cmp) (pr : Cmp → Bool) (sl : SliceAt h0 va l.length (l.flatMap Cmp.cs)) (hz : l.length ≤ 1000000) (g : Nat) (fs cap : List AV) (hf : fv = .func g fs cap) (hcall : ∀ args h, callV P fv args h = .enter g (fs ++ args ++ cap) h)
  (hg : ∀ (x : Cmp) (h : H), x ∈ l → Og h0 h [] → PushC P (.enter g (fs ++ [.agg x.cs] ++ cap) h) (SaysG h (.bool (pr x)))) :
  PushC P (.enter 68 [va, fv] h0) fun v h' => Og h0 h' [] ∧ ((v = .int .i64 (-1) ∧ ∀ x, x ∈ l → pr x = false) ∨ ∃ i : Nat, v = .int .i64 (.ofNat i) ∧ ∃ x, l[i]? = some x ∧ pr x = true) := by
 have hlen := sl.len (P := P) u28a
 refine pushC_of_codeW (fn := Try.f68) (c := bodyC Try.f68) Try.func68 rfl ?_
 show codeW P 68 19 none _ _ _ _ _
 refine codeW_root ?_
 refine rN ?_ (hlen)
 refine st_loop (fun m ds tm h => ∃ i, cixI h0 va fv l pr m ds tm h i) l.length rfl ⟨0, rfl, rfl, Nat.zero_le _, by exact sT, by exact sT, by exact sT, by exact sT, fun j x hj => absurd hj (by omega), Og.refl _ _⟩ (fun m ds tm h hI => ?_)
 obtain ⟨i, rfl, rfl, ii, t0, t1, t7, t8, no, oo⟩ := hI
 by_cases hi : i < l.length
 ·have di : decide (i < l.length) = true := decide_eq_true hi
  have lt1 : (i < l.length) = True:= by simp [hi]
  obtain ⟨x, hx⟩ : ∃ x, l[i]? = some x := ⟨_, List.getElem?_eq_getElem hi⟩
  have slh := SliceAt.only oo.1 sl (fun _ _ => by simp)
  obtain ⟨bv, ov, cv, rfl, hbv, -⟩ := sl.place (by omega)
  obtain ⟨q0, q1, q2, q3, q4⟩ := Cmp.at slh hx
  have w1 : wrapF .i64 (Int.ofNat i + Int.ofNat 1) = Int.ofNat (i + 1) := i64_add (by omega)
  refine rN ?_ (V t0<|V t1<|V t7<|V t8<|V hlen<|V di<|V lt1<|V q0<|V q1<|V q2<|V q3<|V q4<|hcall)
  refine ((hg x h (List.mem_of_getElem? hx) oo).call P).mono P ?_
  rintro _ h2 ⟨rfl, o2⟩
  cases q : pr x with
  | true =>
   refine rN ?_ (q)
   exact ⟨oo.t o2, .inr ⟨i, rfl, x, hx, q⟩⟩
  | false =>
   refine rN ?_ (V q<|V t8<|w1)
   refine ⟨l.length - (i + 1), by omega, i + 1, rfl, rfl, by omega, by exact sT, by exact sT, by exact sT, by exact sT, fun j y hj hy => ?_, oo.t o2⟩
   by_cases e : j < i
   ·exact no j y e hy
   ·obtain rfl : j = i:= by omega
    rw [hx] at hy; cases hy; exact q
 ·have di : decide (i < l.length) = false := decide_eq_false hi
  obtain rfl : i = l.length:= by omega
  refine rN ?_ (V t0<|V t1<|V t7<|V t8<|V hlen<|di)
  exact ⟨oo, .inl ⟨rfl, fun x hx => by
   obtain ⟨j, hj⟩ := List.mem_iff_getElem?.1 hx
   exact no j x (List.getElem?_eq_some_iff.1 hj).1 hj⟩⟩
theorem cixA (h0 : H) (va fv : AV) (l : List Cmp) (pr : Cmp → Bool) (sl : SliceAt h0 va l.length (l.flatMap Cmp.cs)) (hz : l.length ≤ 1000000) (g : Nat) (fs cap : List AV) (hf : fv = .func g fs cap) (hcall : ∀ args h, callV P fv args h = .enter g (fs ++ args ++ cap) h)
  (hg : ∀ (x : Cmp) (h : H), x ∈ l → Og h0 h [] → PushC P (.enter g (fs ++ [.agg x.cs] ++ cap) h) (SaysG h (.bool (pr x)))) :
  PushC P (.enter 38 [va, fv] h0) (SaysG h0 (.bool (l.any pr))) := by
 refine pushC_of_codeW (fn := Try.f38) (c := bodyC Try.f38) Try.func38 rfl ?_
 show codeW P 38 9 none _ _ _ _ _
 refine codeW_root ?_
 refine rN0 ?_
 refine ((cixC h0 va fv l pr sl hz g fs cap hf hcall hg).call P).mono P ?_
 rintro v h2 ⟨o2, ⟨rfl, hno⟩ | ⟨i, rfl, x, hx, hp⟩⟩
 ·have e : l.any pr = false := by
   rw [List.any_eq_false]; intro x hx; rw [hno x hx]; simp
  have d1 : decide (Int.ofNat 0 ≤ (-1 : Int)) = false := rfl
  rw [e]
  refine rN ?_ (d1)
  exact ⟨rfl, o2⟩
 ·have e : l.any pr = true := by
   rw [List.any_eq_true]; exact ⟨x, List.mem_of_getElem? hx, hp⟩
  rw [e]
  have d1 : decide (0 ≤ i) = true := decide_eq_true (Nat.zero_le _)
  refine rN ?_ (d1)
  exact ⟨rfl, o2⟩
structure oixI (h0 : H) (va fv : AV) (l : List Op) (pr : Op → Bool) (m : Nat) (ds : List Nat) (tm : T AV) (h : H) (i : Nat) : Prop where
 ds : ds = []
 nn : m = l.length - i
 ii : i ≤ l.length
 t0 : tm.get 0 = some va
 t1 : tm.get 1 = some fv
 t7 : tm.get 7 = some (.int .i64 (.ofNat l.length))
 t8 : tm.get 8 = some (.int .i64 (.ofNat i))
 no : ∀ j x, j < i → l[j]? = some x → pr x = false
 oo : Og h0 h []
theorem oixC (h0 : H) (va fv : AV) (l : List Op) (pr : Op → Bool) (sl : SliceAt h0 va l.length (l.flatMap Op.cs)) (hz : l.length ≤ 1000000) (g : Nat) (fs cap : List AV) (hf : fv = .func g fs cap) (hcall : ∀ args h, callV P fv args h = .enter g (fs ++ args ++ cap) h)
  (hg : ∀ (x : Op) (h : H), x ∈ l → Og h0 h [] → PushC P (.enter g (fs ++ [.agg x.cs] ++ cap) h) (SaysG h (.bool (pr x)))) :
  PushC P (.enter 79 [va, fv] h0) fun v h' => Og h0 h' [] ∧ ((v = .int .i64 (-1) ∧ ∀ x, x ∈ l → pr x = false) ∨ ∃ i : Nat, v = .int .i64 (.ofNat i) ∧ ∃ x, l[i]? = some x ∧ pr x = true) := by
 have hlen := sl.len (P := P) u29a
 refine pushC_of_codeW (fn := Try.f79) (c := bodyC Try.f79) Try.func79 rfl ?_
 show codeW P 79 19 none _ _ _ _ _
 refine codeW_root ?_
 refine rN ?_ (hlen)
 refine st_loop (fun m ds tm h => ∃ i, oixI h0 va fv l pr m ds tm h i) l.length rfl ⟨0, rfl, rfl, Nat.zero_le _, by exact sT, by exact sT, by exact sT, by exact sT, fun j x hj => absurd hj (by omega), Og.refl _ _⟩ (fun m ds tm h hI => ?_)
 obtain ⟨i, rfl, rfl, ii, t0, t1, t7, t8, no, oo⟩ := hI
 by_cases hi : i < l.length
 ·have di : decide (i < l.length) = true := decide_eq_true hi
  have lt1 : (i < l.length) = True:= by simp [hi]
  obtain ⟨x, hx⟩ : ∃ x, l[i]? = some x := ⟨_, List.getElem?_eq_getElem hi⟩
  have slh := SliceAt.only oo.1 sl (fun _ _ => by simp)
  obtain ⟨bv, ov, cv, rfl, hbv, -⟩ := sl.place (by omega)
  obtain ⟨q0, q1, q2, q3, q4, q5, q6, q7, q8⟩ := Op.at slh hx
  have w1 : wrapF .i64 (Int.ofNat i + Int.ofNat 1) = Int.ofNat (i + 1) := i64_add (by omega)
  refine rN ?_ (V t0<|V t1<|V t7<|V t8<|V hlen<|V di<|V lt1<|V q0<|V q1<|V q2<|V q3<|V q4<|V q5<|V q6<|V q7<|V q8<|hcall)
  refine ((hg x h (List.mem_of_getElem? hx) oo).call P).mono P ?_
  rintro _ h2 ⟨rfl, o2⟩
  cases q : pr x with
  | true =>
   refine rN ?_ (q)
   exact ⟨oo.t o2, .inr ⟨i, rfl, x, hx, q⟩⟩
  | false =>
   refine rN ?_ (V q<|V t8<|w1)
   refine ⟨l.length - (i + 1), by omega, i + 1, rfl, rfl, by omega, by exact sT, by exact sT, by exact sT, by exact sT, fun j y hj hy => ?_, oo.t o2⟩
   by_cases e : j < i
   ·exact no j y e hy
   ·obtain rfl : j = i:= by omega
    rw [hx] at hy; cases hy; exact q
 ·have di : decide (i < l.length) = false := decide_eq_false hi
  obtain rfl : i = l.length:= by omega
  refine rN ?_ (V t0<|V t1<|V t7<|V t8<|V hlen<|di)
  exact ⟨oo, .inl ⟨rfl, fun x hx => by
   obtain ⟨j, hj⟩ := List.mem_iff_getElem?.1 hx
   exact no j x (List.getElem?_eq_some_iff.1 hj).1 hj⟩⟩
theorem oixA (h0 : H) (va fv : AV) (l : List Op) (pr : Op → Bool) (sl : SliceAt h0 va l.length (l.flatMap Op.cs)) (hz : l.length ≤ 1000000) (g : Nat) (fs cap : List AV) (hf : fv = .func g fs cap) (hcall : ∀ args h, callV P fv args h = .enter g (fs ++ args ++ cap) h)
  (hg : ∀ (x : Op) (h : H), x ∈ l → Og h0 h [] → PushC P (.enter g (fs ++ [.agg x.cs] ++ cap) h) (SaysG h (.bool (pr x)))) :
  PushC P (.enter 60 [va, fv] h0) (SaysG h0 (.bool (l.any pr))) := by
 refine pushC_of_codeW (fn := Try.f60) (c := bodyC Try.f60) Try.func60 rfl ?_
 show codeW P 60 9 none _ _ _ _ _
 refine codeW_root ?_
 refine rN0 ?_
 refine ((oixC h0 va fv l pr sl hz g fs cap hf hcall hg).call P).mono P ?_
 rintro v h2 ⟨o2, ⟨rfl, hno⟩ | ⟨i, rfl, x, hx, hp⟩⟩
 ·have e : l.any pr = false := by
   rw [List.any_eq_false]; intro x hx; rw [hno x hx]; simp
  have d1 : decide (Int.ofNat 0 ≤ (-1 : Int)) = false := rfl
  rw [e]
  refine rN ?_ (d1)
  exact ⟨rfl, o2⟩
 ·have e : l.any pr = true := by
   rw [List.any_eq_true]; exact ⟨x, List.mem_of_getElem? hx, hp⟩
  rw [e]
  have d1 : decide (0 ≤ i) = true := decide_eq_true (Nat.zero_le _)
  refine rN ?_ (d1)
  exact ⟨rfl, o2⟩
end
end Go.Proofs.Ytnedigoajoflaaa.M

namespace Go.Proofs.Ytnedigoajoflaaa.M
open Go Go.AX
noncomputable section
set_option maxRecDepth 100000
def checkC (l : List Cmp) : Nat := if 4 < l.length then 3 else if l.all cmpB then 0 else 11
theorem any_not {α : Type} (p : α → Bool) : ∀ l : List α, (l.any fun x => !p x) = !l.all p
 | [] => rfl
 | a :: l => by rw [List.any_cons, List.all_cons, any_not p l]; cases p a <;> rfl
theorem sl_one {h : H} {v : AV} {n : Nat} {cs : List AV} (s : SliceAt h v n cs) : v.one = true:= by cases s <;> rfl
theorem hCheckC (h0 : H) (va : AV) (l : List Cmp) (sl : SliceAt h0 va l.length (l.flatMap Cmp.cs)) (hz : l.length ≤ 1000000) : PushC P (.enter 59 [va] h0) (SaysG h0 (.int .i64 (.ofNat (checkC l)))) := by
 have hlen := sl.len (P := P) u28a
 unfold checkC
 by_cases q : 4 < l.length
 ·have d : decide (4 < l.length) = true := decide_eq_true q
  rw [if_pos q]
  refine pushC_of_codeW (fn := Try.f59) (c := bodyC Try.f59) Try.func59 rfl ?_
  show codeW P 59 10 none _ _ _ _ _
  refine codeW_root ?_
  refine rN ?_ (V hlen<|d)
  exact ⟨rfl, Og.refl _ _⟩
 ·have d : decide (4 < l.length) = false := decide_eq_false q
  rw [if_neg q]
  refine pushC_of_codeW (fn := Try.f59) (c := bodyC Try.f59) Try.func59 rfl ?_
  show codeW P 59 10 none _ _ _ _ _
  refine codeW_root ?_
  refine rN ?_ (V hlen<|d)
  refine ((cixA h0 va (.func 78 [] []) l (fun c => !cmpB c) sl hz 78 [] [] rfl (fun args h => callV_func 78 (by kernel_rfl) [] [] args) (fun x h hx oo => mayNotC h x)).call P).mono P ?_
  rintro _ h2 ⟨rfl, o2⟩
  rw [any_not]
  cases q2 : l.all cmpB with
  | true =>
   refine rN ?_ (@Bool.not_true)
   exact ⟨rfl, o2⟩
  | false =>
   refine rN ?_ (@Bool.not_false)
   exact ⟨rfl, o2⟩
theorem allOne_of : ∀ {l : List AV}, (∀ v, v ∈ l → v.one = true) → allOne l = true
 | [], _ => rfl
 | v :: l, h => by
  have ih := allOne_of (l := l) fun x hx => h x (by simp [hx])
  have hv := h v (by simp)
  unfold allOne
  rw [hv]; exact ih
structure Rq where
 kind : Int
 client : Nat
 num : Nat
 serial : Bool
 cmps : List Cmp
 th : List Op
 el : List Op
 rev : Nat
def Rq.cs (r : Rq) (vc vt ve : AV) : List AV := [.int .i64 r.kind, .int .u64 (.ofNat r.client), .int .u64 (.ofNat r.num), .bool r.serial, vc, vt, ve, .int .u64 (.ofNat r.rev)]
structure RqAt (h : H) (r : Rq) (vc vt ve : AV) : Prop where
 sc : SliceAt h vc r.cmps.length (r.cmps.flatMap Cmp.cs)
 st : SliceAt h vt r.th.length (r.th.flatMap Op.cs)
 se : SliceAt h ve r.el.length (r.el.flatMap Op.cs)
 zc : r.cmps.length ≤ 1000000
 zt : r.th.length ≤ 1000000
 ze : r.el.length ≤ 1000000
theorem RqAt.keep {h h' : H} {r : Rq} {vc vt ve : AV} (a : RqAt h r vc vt ve) (o : Og h h' []) : RqAt h' r vc vt ve :=
 ⟨SliceAt.only o.1 a.sc (fun _ _ => by simp), SliceAt.only o.1 a.st (fun _ _ => by simp), SliceAt.only o.1 a.se (fun _ _ => by simp), a.zc, a.zt, a.ze⟩
def checkR (r : Rq) : Nat := if r.kind = 0 ∧ checkC r.cmps = 0 ∧ r.th.length ≤ 6 ∧ r.el.length ≤ 6 ∧ r.th.all mayB = true ∧ r.el.all mayB = true then 0 else 11
set_option maxHeartbeats 4000000 in
theorem sCheckC (h0 : H) (r : Rq) (vc vt ve : AV) (ra : RqAt h0 r vc vt ve) : PushC P (.enter 35 [.agg (r.cs vc vt ve)] h0) (SaysG h0 (.int .i64 (.ofNat (checkR r)))) := by
 have oc := sl_one ra.sc
 have ot := sl_one ra.st
 have oe := sl_one ra.se
 obtain ⟨h1, h1e⟩ : ∃ h1, h1 = h0.newCells 31 (r.cs vc vt ve) := ⟨_, rfl⟩
 have o1 : Og h0 h1 []:= by rw [h1e]; exact (Og.refl _ _).new _ _
 have c1 : ∀ j, cellAt h1 h0.nx j = (r.cs vc vt ve)[j]? := fun j => by rw [h1e, cellAt_new, if_pos rfl]
 have x1 : h1.nx = h0.nx + 1:= by rw [h1e]; rfl
 have bx : boxR h0 31 (r.cs vc vt ve) = .val (.ptr h0.nx 0) h1 := by
  rw [h1e]; refine boxR_ok (allOne_of fun v hv => ?_)
  unfold Rq.cs at hv
  simp only [List.mem_cons, List.mem_nil_iff, or_false] at hv
  rcases hv with rfl | rfl | rfl | rfl | rfl | rfl | rfl | rfl <;> first | rfl | assumption
 have y0 : cellAt h1 h0.nx 0 = some (.int .i64 r.kind) := c1 0
 have y4 : cellAt h1 h0.nx 4 = some vc := c1 4
 have y5 : cellAt h1 h0.nx 5 = some vt := c1 5
 have y6 : cellAt h1 h0.nx 6 = some ve := c1 6
 have ra1 := ra.keep o1
 have lt := ra.st.len (P := P) u29a
 have le := ra.se.len (P := P) u29a
 by_cases q0 : r.kind = 0
 ·have d0 : (r.kind != Int.ofNat 0) = false:= by rw [q0]; rfl
  refine pushC_of_codeW (fn := Try.f35) (c := bodyC Try.f35) Try.func35 rfl ?_
  show codeW P 35 37 none _ _ _ _ _
  refine codeW_root ?_
  refine rN ?_ (V bx<|V y0<|V y4<|V y5<|V y6<|d0)
  refine ((hCheckC h1 vc r.cmps ra1.sc ra1.zc).call P).mono P ?_
  rintro _ h2 ⟨rfl, o2⟩
  have z5 := kc y5 o2 (by omega) (by simp)
  have z6 := kc y6 o2 (by omega) (by simp)
  by_cases q1 : checkC r.cmps = 0
  ·have d1 : decide (checkC r.cmps = 0) = true := decide_eq_true q1
   by_cases q2 : 6 < r.th.length
   ·have d2 : decide (6 < r.th.length) = true := decide_eq_true q2
    have e : checkR r = 11 := if_neg (fun h => by have := h.2.2.1; omega)
    rw [e]
    refine rN ?_ (V z5<|V z6<|V d1<|V @Bool.not_true<|V lt<|V ot<|d2)
    exact ⟨rfl, o1.t o2⟩
   have d2 : decide (6 < r.th.length) = false := decide_eq_false q2
   by_cases q3 : 6 < r.el.length
   ·have d3 : decide (6 < r.el.length) = true := decide_eq_true q3
    have e : checkR r = 11 := if_neg (fun h => by have := h.2.2.2.1; omega)
    rw [e]
    refine rN ?_ (V z5<|V z6<|V d1<|V @Bool.not_true<|V lt<|V ot<|V d2<|V le<|V oe<|d3)
    exact ⟨rfl, o1.t o2⟩
   have d3 : decide (6 < r.el.length) = false := decide_eq_false q3
   have ra2 := ra1.keep o2
   refine rN ?_ (V z5<|V z6<|V d1<|V @Bool.not_true<|V lt<|V ot<|V d2<|V le<|V oe<|d3)
   refine ((oixA h2 vt (.func 57 [] []) r.th (fun c => !mayB c) ra2.st ra2.zt 57 [] [] rfl (fun args h => callV_func 57 (by kernel_rfl) [] [] args) (fun x h hx oo => opNotC h x)).call P).mono P ?_
   rintro _ h3 ⟨rfl, o3⟩
   rw [any_not]
   have w6 := kc z6 o3 (by have := o2.1.1; omega) (by simp)
   have ra3 := ra2.keep o3
   cases q4 : r.th.all mayB with
   | false =>
    have e : checkR r = 11 := if_neg (fun h => by rw [q4] at h; simp at h)
    rw [e]
    refine rN ?_ (@Bool.not_false)
    exact ⟨rfl, (o1.t o2).t o3⟩
   | true =>
    refine rN ?_ (V @Bool.not_true<|w6)
    refine ((oixA h3 ve (.func 57 [] []) r.el (fun c => !mayB c) ra3.se ra3.ze 57 [] [] rfl (fun args h => callV_func 57 (by kernel_rfl) [] [] args) (fun x h hx oo => opNotC h x)).call P).mono P ?_
    rintro _ h4 ⟨rfl, o4⟩
    rw [any_not]
    cases q5 : r.el.all mayB with
    | false =>
     have e : checkR r = 11 := if_neg (fun h => by rw [q5] at h; simp at h)
     rw [e]
     refine rN ?_ (@Bool.not_false)
     exact ⟨rfl, ((o1.t o2).t o3).t o4⟩
    | true =>
     have e : checkR r = 0 := if_pos ⟨q0, q1, by omega, by omega, q4, q5⟩
     rw [e]
     refine rN ?_ (@Bool.not_true)
     exact ⟨rfl, ((o1.t o2).t o3).t o4⟩
  ·have d1 : decide (checkC r.cmps = 0) = false := decide_eq_false q1
   have e : checkR r = 11 := if_neg (fun h => q1 h.2.1)
   rw [e]
   refine rN ?_ (V d1<|@Bool.not_false)
   exact ⟨rfl, o1.t o2⟩
 ·have d0 : (r.kind != Int.ofNat 0) = true:= by simpa using q0
  have e : checkR r = 11 := if_neg (fun h => q0 h.1)
  rw [e]
  refine pushC_of_codeW (fn := Try.f35) (c := bodyC Try.f35) Try.func35 rfl ?_
  show codeW P 35 37 none _ _ _ _ _
  refine codeW_root ?_
  refine rN ?_ (V bx<|V y0<|V y4<|V y5<|V y6<|d0)
  exact ⟨rfl, o1⟩
end
end Go.Proofs.Ytnedigoajoflaaa.M

namespace Go.Proofs.Ytnedigoajoflaaa.M
open Go Go.AX
noncomputable section
set_option maxRecDepth 100000
def howB (how : Int) (less more : Bool) : Bool := if how == .ofNat 0 then !less && !more else if how == .ofNat 1 then less || more else if how == .ofNat 2 then less else more
theorem howC (h : H) (how : Int) (less more : Bool) : PushC P (.enter 73 [.int .i64 how, .bool less, .bool more] h) (SaysG h (.bool (howB how less more))) := by
 unfold howB
 cases less <;> cases more <;> (
  refine pushC_of_codeW (fn := Try.f73) (c := bodyC Try.f73) Try.func73 rfl ?_
  show codeW P 73 26 none _ _ _ _ _
  refine codeW_root ?_
  repeat' (first | ((with_reducible refine st1 ?_); (conv => whnf); (with_reducible refine ⟨?_⟩)) | ((with_reducible refine retW_intro rfl ?_); (conv => arg 2; whnf)) | ((with_reducible first | refine iB ?_ ?_ | refine gWt ?_ ?_ | refine gWf ?_ ?_) <;> intro hb <;> (try simp only [hb])) | (simp only [B, F, reduceLT, reduceLeDiff, reduceEqDiff, reduceAdd, reduceMul, reduceSub, ↓reduceIte, eq_self, Bool.not_true, Bool.not_false]))
  all_goals exact ⟨congrArg AV.bool (by simp only [*, if_true, if_false, Bool.false_eq_true]; try rfl), Og.refl _ _⟩)
def cmpI (less more : Bool) : Int := if less then -1 else if more then 1 else 0
theorem nan85 (h : H) (a : Nat) : PushC P (.enter 85 [.int .u64 (.ofNat a)] h) (SaysG h (.bool false)) := by
 have d : decide (a = a) = true := decide_eq_true rfl
 refine pushC_of_codeW (fn := Try.f85) (c := bodyC Try.f85) Try.func85 rfl ?_
 show codeW P 85 6 none _ _ _ _ _
 refine codeW_root ?_
 refine rN ?_ (V d<|@Bool.not_true)
 exact ⟨rfl, Og.refl _ _⟩
theorem nan86 (h : H) (a : List Nat) : PushC P (.enter 86 [.str a] h) (SaysG h (.bool false)) := by
 have d : listEqB a a = true := (listEqB_iff a a).2 rfl
 have d2 : decide (a = a) = true := decide_eq_true rfl
 refine pushC_of_codeW (fn := Try.f86) (c := bodyC Try.f86) Try.func86 rfl ?_
 show codeW P 86 6 none _ _ _ _ _
 refine codeW_root ?_
 refine rN ?_ (V d<|V d2<|@Bool.not_true)
 exact ⟨rfl, Og.refl _ _⟩
theorem cmp80 (h : H) (a b : Nat) : PushC P (.enter 80 [.int .u64 (.ofNat a), .int .u64 (.ofNat b)] h) (SaysG h (.int .i64 (cmpI (decide (a < b)) (decide (b < a))))) := by
 refine pushC_of_codeW (fn := Try.f80) (c := bodyC Try.f80) Try.func80 rfl ?_
 show codeW P 80 20 none _ _ _ _ _
 refine codeW_root ?_
 refine rN0 ?_
 refine ((nan85 h a).call P).mono P ?_
 rintro _ h1 ⟨rfl, o1⟩
 refine rN0 ?_
 refine ((nan85 h1 b).call P).mono P ?_
 rintro _ h2 ⟨rfl, o2⟩
 cases q1 : decide (a < b) with
 | true =>
  refine rN ?_ (q1)
  exact ⟨rfl, o1.t o2⟩
 | false =>
  cases q2 : decide (b < a) with
  | true =>
   refine rN ?_ (V q1<|q2)
   exact ⟨rfl, o1.t o2⟩
  | false =>
   refine rN ?_ (V q1<|q2)
   exact ⟨rfl, o1.t o2⟩
def mrS (a b : List Nat) : Bool := !(listLtB a b || listEqB a b)
theorem cmp81 (h : H) (a b : List Nat) : PushC P (.enter 81 [.str a, .str b] h) (SaysG h (.int .i64 (cmpI (listLtB a b) (mrS a b)))) := by
 unfold mrS
 refine pushC_of_codeW (fn := Try.f81) (c := bodyC Try.f81) Try.func81 rfl ?_
 show codeW P 81 20 none _ _ _ _ _
 refine codeW_root ?_
 refine rN0 ?_
 refine ((nan86 h a).call P).mono P ?_
 rintro _ h1 ⟨rfl, o1⟩
 refine rN0 ?_
 refine ((nan86 h1 b).call P).mono P ?_
 rintro _ h2 ⟨rfl, o2⟩
 cases q1 : listLtB a b with
 | true =>
  repeat' (first | ((with_reducible refine st1 ?_); (conv => whnf); (with_reducible refine ⟨?_⟩)) | ((with_reducible refine retW_intro rfl ?_); (conv => arg 2; whnf)) | ((with_reducible first | refine iB ?_ ?_ | refine gWt ?_ ?_ | refine gWf ?_ ?_) <;> intro hb <;> (try simp only [hb])) | (simp only [B, F, reduceLT, reduceLeDiff, reduceEqDiff, reduceAdd, reduceMul, reduceSub, ↓reduceIte, eq_self, @b_lssS, q1]))
  exact ⟨rfl, o1.t o2⟩
 | false =>
  cases q2 : listEqB a b with
  | true =>
   repeat' (first | ((with_reducible refine st1 ?_); (conv => whnf); (with_reducible refine ⟨?_⟩)) | ((with_reducible refine retW_intro rfl ?_); (conv => arg 2; whnf)) | ((with_reducible first | refine iB ?_ ?_ | refine gWt ?_ ?_ | refine gWf ?_ ?_) <;> intro hb <;> (try simp only [hb])) | (simp only [B, F, reduceLT, reduceLeDiff, reduceEqDiff, reduceAdd, reduceMul, reduceSub, ↓reduceIte, eq_self, @b_lssS, @b_gtrS, q1, q2, Bool.or_true, Bool.not_true]))
   exact ⟨rfl, o1.t o2⟩
  | false =>
   repeat' (first | ((with_reducible refine st1 ?_); (conv => whnf); (with_reducible refine ⟨?_⟩)) | ((with_reducible refine retW_intro rfl ?_); (conv => arg 2; whnf)) | ((with_reducible first | refine iB ?_ ?_ | refine gWt ?_ ?_ | refine gWf ?_ ?_) <;> intro hb <;> (try simp only [hb])) | (simp only [B, F, reduceLT, reduceLeDiff, reduceEqDiff, reduceAdd, reduceMul, reduceSub, ↓reduceIte, eq_self, @b_lssS, @b_gtrS, q1, q2, Bool.or_false, Bool.not_false]))
   exact ⟨rfl, o1.t o2⟩
theorem how4 {how : Int} (h1 : .ofNat 0 ≤ how) (h2 : how ≤ .ofNat 3) : how = .ofNat 0 ∨ how = .ofNat 1 ∨ how = .ofNat 2 ∨ how = .ofNat 3 := by
 have h1 : (0 : Int) ≤ how := h1
 have h2 : how ≤ 3 := h2
 have : how = 0 ∨ how = 1 ∨ how = 2 ∨ how = 3:= by omega
 exact this
theorem cmpI_eq {less more : Bool} (hx : less = true → more = false) : (cmpI less more == .ofNat 0) = (!less && !more) ∧ (cmpI less more != .ofNat 0) = (less || more) ∧ decide (cmpI less more < .ofNat 0) = less ∧ decide (.ofNat 0 < cmpI less more) = more := by
 cases less <;> cases more
 ·exact ⟨rfl, rfl, rfl, rfl⟩
 ·exact ⟨rfl, rfl, rfl, rfl⟩
 ·exact ⟨rfl, rfl, rfl, rfl⟩
 ·exact Bool.noConfusion (hx rfl)
theorem u139a : P.underlying 139 = some (.array 4 4):= by kernel_rfl
theorem co4b : P.cellsOf 4 = 1:= by kernel_rfl
theorem ag4b : aggT P 4 = false:= by kernel_rfl
theorem ok4b : okT P 4 = true:= by kernel_rfl
theorem ix139 (a b c d : Bool) (k : Nat) (hk : k < 4) : indexA P 139 (.agg [.bool a, .bool b, .bool c, .bool d]) (.int .i64 (.ofNat k)) = [AV.bool a, .bool b, .bool c, .bool d][k]? := by
 have hb : Nat.blt k 4 = true := Nat.ble_eq_true_of_le hk
 unfold indexA
 simp only [u139a, ok4b, co4b, hb, Bool.and_true, partA, ag4b, Nat.mul_one]
theorem cmp63 (h : H) (a b : Nat) (how : Int) (h1 : .ofNat 0 ≤ how) (h2 : how ≤ .ofNat 3) : PushC P (.enter 63 [.int .u64 (.ofNat a), .int .u64 (.ofNat b), .int .i64 how] h) (SaysG h (.bool (howB how (decide (a < b)) (decide (b < a))))) := by
 obtain ⟨e1, e2, e3, e4⟩ := cmpI_eq (less := decide (a < b)) (more := decide (b < a)) (fun q => by simp at q ⊢; omega)
 obtain ⟨n, hn⟩ : ∃ n, n = cmpI (decide (a < b)) (decide (b < a)) := ⟨_, rfl⟩
 rw [← hn] at e1 e2 e3 e4
 rcases how4 h1 h2 with rfl | rfl | rfl | rfl <;> (
  refine pushC_of_codeW (fn := Try.f63) (c := bodyC Try.f63) Try.func63 rfl ?_
  show codeW P 63 22 none _ _ _ _ _
  refine codeW_root ?_
  refine rN0 ?_
  refine ((cmp80 h a b).call P).mono P ?_
  rintro _ h2 ⟨rfl, o2⟩
  rw [← hn]
  repeat' (first | ((with_reducible refine st1 ?_); (conv => whnf); (with_reducible refine ⟨?_⟩)) | ((with_reducible refine retW_intro rfl ?_); (conv => arg 2; whnf)) | ((with_reducible first | refine iB ?_ ?_ | refine gWt ?_ ?_ | refine gWf ?_ ?_) <;> intro hb <;> (try simp only [hb])) | (simp only [B, F, reduceLT, reduceLeDiff, reduceEqDiff, reduceAdd, reduceMul, reduceSub, ↓reduceIte, eq_self, e1, e2, e3, e4, ix139 _ _ _ _ 0 (by omega), ix139 _ _ _ _ 1 (by omega), ix139 _ _ _ _ 2 (by omega), ix139 _ _ _ _ 3 (by omega)]))
  exact ⟨rfl, o2⟩)
theorem cmp67 (h : H) (a b : List Nat) (how : Int) (h1 : .ofNat 0 ≤ how) (h2 : how ≤ .ofNat 3) : PushC P (.enter 67 [.str a, .str b, .int .i64 how] h) (SaysG h (.bool (howB how (listLtB a b) (mrS a b)))) := by
 obtain ⟨e1, e2, e3, e4⟩ := cmpI_eq (less := listLtB a b) (more := mrS a b) (fun q => by unfold mrS; rw [q]; rfl)
 obtain ⟨n, hn⟩ : ∃ n, n = cmpI (listLtB a b) (mrS a b) := ⟨_, rfl⟩
 rw [← hn] at e1 e2 e3 e4
 rcases how4 h1 h2 with rfl | rfl | rfl | rfl <;> (
  refine pushC_of_codeW (fn := Try.f67) (c := bodyC Try.f67) Try.func67 rfl ?_
  show codeW P 67 22 none _ _ _ _ _
  refine codeW_root ?_
  refine rN0 ?_
  refine ((cmp81 h a b).call P).mono P ?_
  rintro _ h2 ⟨rfl, o2⟩
  rw [← hn]
  repeat' (first | ((with_reducible refine st1 ?_); (conv => whnf); (with_reducible refine ⟨?_⟩)) | ((with_reducible refine retW_intro rfl ?_); (conv => arg 2; whnf)) | ((with_reducible first | refine iB ?_ ?_ | refine gWt ?_ ?_ | refine gWf ?_ ?_) <;> intro hb <;> (try simp only [hb])) | (simp only [B, F, reduceLT, reduceLeDiff, reduceEqDiff, reduceAdd, reduceMul, reduceSub, ↓reduceIte, eq_self, e1, e2, e3, e4, ix139 _ _ _ _ 0 (by omega), ix139 _ _ _ _ 1 (by omega), ix139 _ _ _ _ 2 (by omega), ix139 _ _ _ _ 3 (by omega)]))
  exact ⟨rfl, o2⟩)
end
end Go.Proofs.Ytnedigoajoflaaa.M

namespace Go.Proofs.Ytnedigoajoflaaa.M
open Go Go.AX
noncomputable section
set_option maxRecDepth 100000
def kv0 : KV := ⟨[], [], 0, 0, 0⟩
def holdsK (c : Cmp) (kv : KV) (there : Bool) : Bool :=
 if c.what == .ofNat 0 then howB c.how (decide (kv.ver < c.n)) (decide (c.n < kv.ver))
 else if c.what == .ofNat 1 then howB c.how (decide (kv.cre < c.n)) (decide (c.n < kv.cre))
 else if c.what == .ofNat 2 then howB c.how (decide (kv.mod < c.n)) (decide (c.n < kv.mod))
 else there && howB c.how (listLtB kv.val c.val) (mrS kv.val c.val)
def holdsB (c : Cmp) (kv : KV) (there : Bool) : Bool := cmpB c && holdsK c (if there then kv else kv0) there
structure HoC (h : H) (bk bc : Nat) (c : Cmp) (kv : KV) : Prop where
 k1 : cellAt h bk 1 = some (.str kv.val)
 k2 : cellAt h bk 2 = some (.int .u64 (.ofNat kv.cre))
 k3 : cellAt h bk 3 = some (.int .u64 (.ofNat kv.mod))
 k4 : cellAt h bk 4 = some (.int .u64 (.ofNat kv.ver))
 c2 : cellAt h bc 2 = some (.int .i64 c.how)
 c3 : cellAt h bc 3 = some (.int .u64 (.ofNat c.n))
 c4 : cellAt h bc 4 = some (.str c.val)
theorem ho62 (h : H) (bk bc : Nat) (c : Cmp) (kv : KV) (a : HoC h bk bc c kv) (h1 : .ofNat 0 ≤ c.how) (h2 : c.how ≤ .ofNat 3) : PushC P (.enter 62 [.ptr bk 0, .ptr bc 0] h) (SaysG h (.bool (howB c.how (decide (kv.ver < c.n)) (decide (c.n < kv.ver))))) := by
 obtain ⟨k1, k2, k3, k4, c2, c3, c4⟩ := a
 refine pushC_of_codeW (fn := Try.f62) (c := bodyC Try.f62) Try.func62 rfl ?_
 show codeW P 62 10 none _ _ _ _ _
 refine codeW_root ?_
 refine rN ?_ (V k4<|V c2<|c3)
 refine ((cmp63 h kv.ver c.n c.how h1 h2).call P).mono P ?_
 rintro _ h3 ⟨rfl, o3⟩
 refine rN0 ?_
 exact ⟨rfl, o3⟩
theorem ho64 (h : H) (bk bc : Nat) (c : Cmp) (kv : KV) (a : HoC h bk bc c kv) (h1 : .ofNat 0 ≤ c.how) (h2 : c.how ≤ .ofNat 3) : PushC P (.enter 64 [.ptr bk 0, .ptr bc 0] h) (SaysG h (.bool (howB c.how (decide (kv.cre < c.n)) (decide (c.n < kv.cre))))) := by
 obtain ⟨k1, k2, k3, k4, c2, c3, c4⟩ := a
 refine pushC_of_codeW (fn := Try.f64) (c := bodyC Try.f64) Try.func64 rfl ?_
 show codeW P 64 10 none _ _ _ _ _
 refine codeW_root ?_
 refine rN ?_ (V k2<|V c2<|c3)
 refine ((cmp63 h kv.cre c.n c.how h1 h2).call P).mono P ?_
 rintro _ h3 ⟨rfl, o3⟩
 refine rN0 ?_
 exact ⟨rfl, o3⟩
theorem ho65 (h : H) (bk bc : Nat) (c : Cmp) (kv : KV) (a : HoC h bk bc c kv) (h1 : .ofNat 0 ≤ c.how) (h2 : c.how ≤ .ofNat 3) : PushC P (.enter 65 [.ptr bk 0, .ptr bc 0] h) (SaysG h (.bool (howB c.how (decide (kv.mod < c.n)) (decide (c.n < kv.mod))))) := by
 obtain ⟨k1, k2, k3, k4, c2, c3, c4⟩ := a
 refine pushC_of_codeW (fn := Try.f65) (c := bodyC Try.f65) Try.func65 rfl ?_
 show codeW P 65 10 none _ _ _ _ _
 refine codeW_root ?_
 refine rN ?_ (V k3<|V c2<|c3)
 refine ((cmp63 h kv.mod c.n c.how h1 h2).call P).mono P ?_
 rintro _ h3 ⟨rfl, o3⟩
 refine rN0 ?_
 exact ⟨rfl, o3⟩
theorem ho66 (h : H) (bt bk bc : Nat) (c : Cmp) (kv : KV) (there : Bool) (a : HoC h bk bc c kv) (ht : cellAt h bt 0 = some (.bool there)) (h1 : .ofNat 0 ≤ c.how) (h2 : c.how ≤ .ofNat 3) : PushC P (.enter 66 [.ptr bt 0, .ptr bk 0, .ptr bc 0] h) (SaysG h (.bool (there && howB c.how (listLtB kv.val c.val) (mrS kv.val c.val)))) := by
 obtain ⟨k1, k2, k3, k4, c2, c3, c4⟩ := a
 cases there with
 | false =>
  refine pushC_of_codeW (fn := Try.f66) (c := bodyC Try.f66) Try.func66 rfl ?_
  show codeW P 66 14 none _ _ _ _ _
  refine codeW_root ?_
  refine rN ?_ (ht)
  exact ⟨rfl, Og.refl _ _⟩
 | true =>
  refine pushC_of_codeW (fn := Try.f66) (c := bodyC Try.f66) Try.func66 rfl ?_
  show codeW P 66 14 none _ _ _ _ _
  refine codeW_root ?_
  refine rN ?_ (V ht<|V k1<|V c2<|c4)
  refine ((cmp67 h kv.val c.val c.how h1 h2).call P).mono P ?_
  rintro _ h3 ⟨rfl, o3⟩
  refine rN0 ?_
  exact ⟨rfl, o3⟩
theorem cmpB_how {c : Cmp} (h : cmpB c = true) : .ofNat 0 ≤ c.how ∧ c.how ≤ .ofNat 3 ∧ .ofNat 0 ≤ c.what ∧ c.what ≤ .ofNat 3 := by
 unfold cmpB at h
 simp only [Bool.and_eq_true, decide_eq_true_eq] at h
 exact ⟨h.1.1.2, h.1.2, h.1.1.1.1.2, h.1.1.1.2⟩
theorem KV.len (x : KV) : x.cs.length = 5 := rfl
theorem bxK (h : H) (c : KV) : boxR h 55 c.cs = .val (.ptr h.nx 0) (h.newCells 55 c.cs) := boxR_ok rfl
theorem zkv : kv0.cs = [.str [], .str [], .int .u64 (.ofNat 0), .int .u64 (.ofNat 0), .int .u64 (.ofNat 0)] := rfl
theorem hoC_of {h : H} {bk bc : Nat} {c : Cmp} {kv : KV} (hk : ∀ j, j < 5 → cellAt h bk j = kv.cs[j]?) (hc : ∀ j, j < 5 → cellAt h bc j = c.cs[j]?) : HoC h bk bc c kv :=
 ⟨hk 1 (by omega), hk 2 (by omega), hk 3 (by omega), hk 4 (by omega), hc 2 (by omega), hc 3 (by omega), hc 4 (by omega)⟩
theorem u130b : P.underlying 130 = some (.array 4 41):= by kernel_rfl
theorem co41 : P.cellsOf 41 = 1:= by kernel_rfl
theorem ok41b : okT P 41 = true:= by kernel_rfl
theorem ia130 (b i : Nat) (hi : i < 4) : indexAddrA P 130 (.ptr b 0) (.int .i64 (.ofNat i)) = some (.ptr b i) := by
 have hb : Nat.blt i 4 = true := Nat.ble_eq_true_of_le hi
 unfold indexAddrA
 simp only [u130b, hb, ok41b, Bool.and_true, co41, Nat.mul_one, Nat.zero_add]
theorem bxB (h : H) (b : Bool) : boxR h 4 [.bool b] = .val (.ptr h.nx 0) (h.newCells 4 [.bool b]) := boxR_ok rfl
set_option maxHeartbeats 4000000 in
theorem holdsC (h0 : H) (c : Cmp) (kv : KV) (there : Bool) : PushC P (.enter 37 [.agg c.cs, .agg kv.cs, .bool there] h0) (SaysG h0 (.bool (holdsB c kv there))) := by
 obtain ⟨h1, h1e⟩ : ∃ h1, h1 = h0.newCells 68 c.cs := ⟨_, rfl⟩
 obtain ⟨h2, h2e⟩ : ∃ h2, h2 = h1.newCells 55 kv.cs := ⟨_, rfl⟩
 obtain ⟨h2', h2e'⟩ : ∃ h2', h2' = h2.newCells 4 [.bool there] := ⟨_, rfl⟩
 have o1 : Og h0 h1 []:= by rw [h1e]; exact (Og.refl _ _).new _ _
 have o2 : Og h1 h2 []:= by rw [h2e]; exact (Og.refl _ _).new _ _
 have o2' : Og h2 h2' []:= by rw [h2e']; exact (Og.refl _ _).new _ _
 have x1 : h1.nx = h0.nx + 1:= by rw [h1e]; rfl
 have x2 : h2.nx = h1.nx + 1:= by rw [h2e]; rfl
 have x2' : h2'.nx = h2.nx + 1:= by rw [h2e']; rfl
 have bx1 : boxR h0 68 c.cs = .val (.ptr h0.nx 0) h1:= by rw [h1e]; exact bxC h0 c
 have bx2 : boxR h1 55 kv.cs = .val (.ptr h1.nx 0) h2:= by rw [h2e]; exact bxK h1 kv
 have bx3 : boxR h2 4 [.bool there] = .val (.ptr h2.nx 0) h2':= by rw [h2e']; exact bxB h2 there
 have hc1 : ∀ j, cellAt h1 h0.nx j = c.cs[j]? := fun j => by rw [h1e, cellAt_new, if_pos rfl]
 have hc2 : ∀ j, j < 5 → cellAt h2' h0.nx j = c.cs[j]? := fun j _ => by rw [cellAt_of_get (o2'.1.2 h0.nx (by omega) (by simp)), cellAt_of_get (o2.1.2 h0.nx (by omega) (by simp))]; exact hc1 j
 have hk2 : ∀ j, j < 5 → cellAt h2' h1.nx j = kv.cs[j]? := fun j _ => by rw [cellAt_of_get (o2'.1.2 h1.nx (by omega) (by simp)), h2e, cellAt_new, if_pos rfl]
 have ht2 : cellAt h2' h2.nx 0 = some (.bool there):= by rw [h2e', cellAt_new, if_pos rfl]; rfl
 have wr2 : wrAt h2' h1.nx = true:= by rw [wrAt_of_get (o2'.1.2 h1.nx (by omega) (by simp)), h2e, wrAt_new, if_pos rfl]
 have y0 : cellAt h2' h0.nx 0 = some (.str c.key) := hc2 0 (by omega)
 have y1 : cellAt h2' h0.nx 1 = some (.int .i64 c.what) := hc2 1 (by omega)
 have y2 : cellAt h2' h0.nx 2 = some (.int .i64 c.how) := hc2 2 (by omega)
 have y3 : cellAt h2' h0.nx 3 = some (.int .u64 (.ofNat c.n)) := hc2 3 (by omega)
 have y4 : cellAt h2' h0.nx 4 = some (.str c.val) := hc2 4 (by omega)
 refine pushC_of_codeW (fn := Try.f37) (c := bodyC Try.f37) Try.func37 rfl ?_
 show codeW P 37 24 none _ _ _ _ _
 refine codeW_root ?_
 refine rN ?_ (V bx1<|V bx2<|V h2e'.symm<|V y0<|V y1<|V y2<|V y3<|y4)
 refine ((cMayC h2' c).call P).mono P ?_
 rintro _ h3 ⟨rfl, o3⟩
 have o03 := ((o1.t o2).t o2').t o3
 have ht3 := kc ht2 o3 (by omega) (by simp)
 cases q : cmpB c with
 | false =>
  have e : holdsB c kv there = false:= by unfold holdsB; rw [q]; rfl
  rw [e]
  refine rN ?_ (@Bool.not_false)
  exact ⟨rfl, o03⟩
 | true =>
  obtain ⟨hh1, hh2, hw1, hw2⟩ := cmpB_how q
  have e : holdsB c kv there = holdsK c (if there then kv else kv0) there:= by unfold holdsB; rw [q]; rfl
  rw [e]
  have key : ∀ (kv' : KV) (tm : T AV) (h : H), (∀ j, j < 5 → cellAt h h1.nx j = kv'.cs[j]?) → (∀ j, j < 5 → cellAt h h0.nx j = c.cs[j]?) → cellAt h h2.nx 0 = some (.bool there) → h2'.nx ≤ h.nx → Og h0 h [] → tm.get 3 = some (.ptr h0.nx 0) → tm.get 4 = some (.ptr h1.nx 0) → tm.get 5 = some (.ptr h2.nx 0) →
    codeW P 37 24 none (codeI (bodyC Try.f37) [1, 1, 1]) [] tm h (retK P Try.f37 (SaysG h0 (.bool (holdsK c kv' there)))) := by
   intro kv' tm h hk hc ht hx oo t3 t4 t5
   obtain ⟨h5, h5e⟩ : ∃ h5, h5 = (h.newCells 130 [AV.nilFunc, AV.nilFunc, AV.nilFunc, AV.nilFunc]).sts h.nx 0 [AV.func 62 [] [AV.ptr h1.nx 0, AV.ptr h0.nx 0], AV.func 64 [] [AV.ptr h1.nx 0, AV.ptr h0.nx 0], AV.func 65 [] [AV.ptr h1.nx 0, AV.ptr h0.nx 0], AV.func 66 [] [AV.ptr h2.nx 0, AV.ptr h1.nx 0, AV.ptr h0.nx 0]] := ⟨_, rfl⟩
   have o5 : Og h h5 []:= by rw [h5e]; exact ((Og.refl _ _).new _ _).sts (.inr (Nat.le_refl _))
   have hk5 : ∀ j, j < 5 → cellAt h5 h1.nx j = kv'.cs[j]? := fun j hj => by rw [cellAt_of_get (o5.1.2 h1.nx (by omega) (by simp))]; exact hk j hj
   have hc5 : ∀ j, j < 5 → cellAt h5 h0.nx j = c.cs[j]? := fun j hj => by rw [cellAt_of_get (o5.1.2 h0.nx (by omega) (by simp))]; exact hc j hj
   have ht5 := kc ht o5 (by omega) (by simp)
   have ho := hoC_of hk5 hc5
   have c1 : cellAt h5 h0.nx 1 = some (.int .i64 c.what) := hc5 1 (by omega)
   have hf : ∀ j, j < 4 → cellAt h5 h.nx j = [AV.func 62 [] [AV.ptr h1.nx 0, AV.ptr h0.nx 0], AV.func 64 [] [AV.ptr h1.nx 0, AV.ptr h0.nx 0], AV.func 65 [] [AV.ptr h1.nx 0, AV.ptr h0.nx 0], AV.func 66 [] [AV.ptr h2.nx 0, AV.ptr h1.nx 0, AV.ptr h0.nx 0]][j]? := fun j hj => by
    rw [h5e, cellAt_sts (by rw [wrAt_new, if_pos rfl]), if_pos ⟨rfl, Nat.zero_le _, by simpa using hj⟩, Nat.sub_zero]
   have f0 : cellAt h5 h.nx 0 = some (AV.func 62 [] [AV.ptr h1.nx 0, AV.ptr h0.nx 0]) := hf 0 (by omega)
   have f1 : cellAt h5 h.nx 1 = some (AV.func 64 [] [AV.ptr h1.nx 0, AV.ptr h0.nx 0]) := hf 1 (by omega)
   have f2 : cellAt h5 h.nx 2 = some (AV.func 65 [] [AV.ptr h1.nx 0, AV.ptr h0.nx 0]) := hf 2 (by omega)
   have f3 : cellAt h5 h.nx 3 = some (AV.func 66 [] [AV.ptr h2.nx 0, AV.ptr h1.nx 0, AV.ptr h0.nx 0]) := hf 3 (by omega)
   rcases how4 hw1 hw2 with w | w | w | w <;> rw [w] at c1
   ·have e2 : holdsK c kv' there = howB c.how (decide (kv'.ver < c.n)) (decide (c.n < kv'.ver)):= by unfold holdsK; rw [w]; rfl
    rw [e2]
    repeat' (first | ((with_reducible refine st1 ?_); (conv => whnf); (with_reducible refine ⟨?_⟩)) | ((with_reducible refine retW_intro rfl ?_); (conv => arg 2; whnf)) | ((with_reducible first | refine iB ?_ ?_ | refine gWt ?_ ?_ | refine gWf ?_ ?_) <;> intro hb <;> (try simp only [hb])) | (simp only [B, F, reduceLT, reduceLeDiff, reduceEqDiff, reduceAdd, reduceMul, reduceSub, ↓reduceIte, eq_self, t3, t4, t5, ← h5e, c1, f0, f1, f2, f3, ia130 _ 0 (by omega), ia130 _ 1 (by omega), ia130 _ 2 (by omega), ia130 _ 3 (by omega)]))
    refine ((ho62 h5 h1.nx h0.nx c kv' ho hh1 hh2).call P).mono P ?_
    rintro _ h6 ⟨rfl, o6⟩
    refine rN0 ?_
    exact ⟨rfl, (oo.t o5).t o6⟩
   ·have e2 : holdsK c kv' there = howB c.how (decide (kv'.cre < c.n)) (decide (c.n < kv'.cre)):= by unfold holdsK; rw [w]; rfl
    rw [e2]
    repeat' (first | ((with_reducible refine st1 ?_); (conv => whnf); (with_reducible refine ⟨?_⟩)) | ((with_reducible refine retW_intro rfl ?_); (conv => arg 2; whnf)) | ((with_reducible first | refine iB ?_ ?_ | refine gWt ?_ ?_ | refine gWf ?_ ?_) <;> intro hb <;> (try simp only [hb])) | (simp only [B, F, reduceLT, reduceLeDiff, reduceEqDiff, reduceAdd, reduceMul, reduceSub, ↓reduceIte, eq_self, t3, t4, t5, ← h5e, c1, f0, f1, f2, f3, ia130 _ 0 (by omega), ia130 _ 1 (by omega), ia130 _ 2 (by omega), ia130 _ 3 (by omega)]))
    refine ((ho64 h5 h1.nx h0.nx c kv' ho hh1 hh2).call P).mono P ?_
    rintro _ h6 ⟨rfl, o6⟩
    refine rN0 ?_
    exact ⟨rfl, (oo.t o5).t o6⟩
   ·have e2 : holdsK c kv' there = howB c.how (decide (kv'.mod < c.n)) (decide (c.n < kv'.mod)):= by unfold holdsK; rw [w]; rfl
    rw [e2]
    repeat' (first | ((with_reducible refine st1 ?_); (conv => whnf); (with_reducible refine ⟨?_⟩)) | ((with_reducible refine retW_intro rfl ?_); (conv => arg 2; whnf)) | ((with_reducible first | refine iB ?_ ?_ | refine gWt ?_ ?_ | refine gWf ?_ ?_) <;> intro hb <;> (try simp only [hb])) | (simp only [B, F, reduceLT, reduceLeDiff, reduceEqDiff, reduceAdd, reduceMul, reduceSub, ↓reduceIte, eq_self, t3, t4, t5, ← h5e, c1, f0, f1, f2, f3, ia130 _ 0 (by omega), ia130 _ 1 (by omega), ia130 _ 2 (by omega), ia130 _ 3 (by omega)]))
    refine ((ho65 h5 h1.nx h0.nx c kv' ho hh1 hh2).call P).mono P ?_
    rintro _ h6 ⟨rfl, o6⟩
    refine rN0 ?_
    exact ⟨rfl, (oo.t o5).t o6⟩
   ·have e2 : holdsK c kv' there = (there && howB c.how (listLtB kv'.val c.val) (mrS kv'.val c.val)):= by unfold holdsK; rw [w]; rfl
    rw [e2]
    repeat' (first | ((with_reducible refine st1 ?_); (conv => whnf); (with_reducible refine ⟨?_⟩)) | ((with_reducible refine retW_intro rfl ?_); (conv => arg 2; whnf)) | ((with_reducible first | refine iB ?_ ?_ | refine gWt ?_ ?_ | refine gWf ?_ ?_) <;> intro hb <;> (try simp only [hb])) | (simp only [B, F, reduceLT, reduceLeDiff, reduceEqDiff, reduceAdd, reduceMul, reduceSub, ↓reduceIte, eq_self, t3, t4, t5, ← h5e, c1, f0, f1, f2, f3, ia130 _ 0 (by omega), ia130 _ 1 (by omega), ia130 _ 2 (by omega), ia130 _ 3 (by omega)]))
    refine ((ho66 h5 h2.nx h1.nx h0.nx c kv' there ho ht5 hh1 hh2).call P).mono P ?_
    rintro _ h6 ⟨rfl, o6⟩
    refine rN0 ?_
    exact ⟨rfl, (oo.t o5).t o6⟩
  have hc3 : ∀ j, j < 5 → cellAt h3 h0.nx j = c.cs[j]? := fun j hj => by rw [cellAt_of_get (o3.1.2 h0.nx (by omega) (by simp))]; exact hc2 j hj
  have hk3 : ∀ j, j < 5 → cellAt h3 h1.nx j = kv.cs[j]? := fun j hj => by rw [cellAt_of_get (o3.1.2 h1.nx (by omega) (by simp))]; exact hk2 j hj
  have wr3 : wrAt h3 h1.nx = true := kw wr2 o3 (by omega) (by simp)
  have x3 := o3.1.1
  cases there with
  | true =>
   repeat' (first | (with_reducible refine stopC [1, 1, 1] ?_) | ((with_reducible refine st1 ?_); (conv => whnf); (with_reducible refine ⟨?_⟩)) | ((with_reducible refine retW_intro rfl ?_); (conv => arg 2; whnf)) | ((with_reducible first | refine iB ?_ ?_ | refine gWt ?_ ?_ | refine gWf ?_ ?_) <;> intro hb <;> (try simp only [hb])) | (simp only [B, F, reduceLT, reduceLeDiff, reduceEqDiff, reduceAdd, reduceMul, reduceSub, ↓reduceIte, eq_self, ht3, Bool.not_true]))
   exact ⟨key kv _ h3 hk3 hc3 ht3 x3 o03 (by exact sT) (by exact sT) (by exact sT)⟩
  | false =>
   obtain ⟨h4, h4e⟩ : ∃ h4, h4 = h3.sts h1.nx 0 kv0.cs := ⟨_, rfl⟩
   have o4 : Og h3 h4 [h1.nx]:= by rw [h4e]; exact (Og.refl _ _).sts (.inl (by simp))
   have hk4 : ∀ j, j < 5 → cellAt h4 h1.nx j = kv0.cs[j]? := fun j hj => by rw [h4e, cellAt_sts wr3, if_pos ⟨rfl, Nat.zero_le _, by rw [KV.len]; omega⟩, Nat.sub_zero]
   have hc4 : ∀ j, j < 5 → cellAt h4 h0.nx j = c.cs[j]? := fun j hj => by rw [cellAt_of_get (o4.1.2 h0.nx (by omega) (by simp; omega))]; exact hc3 j hj
   have ht4 : cellAt h4 h2.nx 0 = some (.bool false) := kc ht3 o4 (by omega) (by simp; omega)
   have o04 : Og h0 h4 [] := ⟨⟨by have := o03.1.1; have := o4.1.1; omega, fun c hc _ => by rw [o4.1.2 c (by have := o03.1.1; omega) (by simp; omega)]; exact o03.1.2 c hc (by simp)⟩, o4.2.trans o03.2⟩
   rw [zkv] at h4e
   have z0 : cellAt h3 h1.nx 0 = some (.str kv.key) := hk3 0 (by omega)
   have z1 : cellAt h3 h1.nx 1 = some (.str kv.val) := hk3 1 (by omega)
   have z2 : cellAt h3 h1.nx 2 = some (.int .u64 (.ofNat kv.cre)) := hk3 2 (by omega)
   have z3 : cellAt h3 h1.nx 3 = some (.int .u64 (.ofNat kv.mod)) := hk3 3 (by omega)
   have z4 : cellAt h3 h1.nx 4 = some (.int .u64 (.ofNat kv.ver)) := hk3 4 (by omega)
   repeat' (first | (with_reducible refine stopC [1, 1, 1] ?_) | ((with_reducible refine st1 ?_); (conv => whnf); (with_reducible refine ⟨?_⟩)) | ((with_reducible refine retW_intro rfl ?_); (conv => arg 2; whnf)) | ((with_reducible first | refine iB ?_ ?_ | refine gWt ?_ ?_ | refine gWf ?_ ?_) <;> intro hb <;> (try simp only [hb])) | (simp only [B, F, reduceLT, reduceLeDiff, reduceEqDiff, reduceAdd, reduceMul, reduceSub, ↓reduceIte, eq_self, ht3, Bool.not_true, Bool.not_false, wr3, z0, z1, z2, z3, z4, ez, ← h4e]))
   exact ⟨key kv0 _ h4 hk4 hc4 ht4 (by have := o4.1.1; omega) o04 (by exact sT) (by exact sT) (by exact sT)⟩
end
end Go.Proofs.Ytnedigoajoflaaa.M

namespace Go.Proofs.Ytnedigoajoflaaa.M
open Go Go.AX
noncomputable section
set_option maxRecDepth 100000
theorem inC (h : H) (k key fin : List Nat) : PushC P (.enter 74 [.str k, .str key, .str fin] h) (SaysG h (.bool (liesB k key fin))) := by
 unfold liesB
 by_cases q : fin = []
 ·have d1 : decide (fin = []) = true := decide_eq_true q
  rw [if_pos q]
  refine pushC_of_codeW (fn := Try.f74) (c := bodyC Try.f74) Try.func74 rfl ?_
  show codeW P 74 24 none _ _ _ _ _
  refine codeW_root ?_
  repeat' (first | ((with_reducible refine st1 ?_); (conv => whnf); (with_reducible refine ⟨?_⟩)) | ((with_reducible refine retW_intro rfl ?_); (conv => arg 2; whnf)) | ((with_reducible first | refine iB ?_ ?_ | refine gWt ?_ ?_ | refine gWf ?_ ?_) <;> intro hb <;> (try simp only [hb])) | (simp only [B, F, reduceLT, reduceLeDiff, reduceEqDiff, reduceAdd, reduceMul, reduceSub, ↓reduceIte, eq_self, ez, d1, @b_geqS, @b_lssS]))
  exact ⟨rfl, Og.refl _ _⟩
 ·have d1 : decide (fin = []) = false := decide_eq_false q
  rw [if_neg q]
  cases q2 : listLtB k key with
  | true =>
   refine pushC_of_codeW (fn := Try.f74) (c := bodyC Try.f74) Try.func74 rfl ?_
   show codeW P 74 24 none _ _ _ _ _
   refine codeW_root ?_
   repeat' (first | ((with_reducible refine st1 ?_); (conv => whnf); (with_reducible refine ⟨?_⟩)) | ((with_reducible refine retW_intro rfl ?_); (conv => arg 2; whnf)) | ((with_reducible first | refine iB ?_ ?_ | refine gWt ?_ ?_ | refine gWf ?_ ?_) <;> intro hb <;> (try simp only [hb])) | (simp only [B, F, reduceLT, reduceLeDiff, reduceEqDiff, reduceAdd, reduceMul, reduceSub, ↓reduceIte, eq_self, ez, e00, d1, @b_geqS, @b_lssS, q2, Bool.not_true]))
   exact ⟨rfl, Og.refl _ _⟩
  | false =>
   by_cases q3 : fin = [0]
   ·have d3 : decide (fin = [0]) = true := decide_eq_true q3
    refine pushC_of_codeW (fn := Try.f74) (c := bodyC Try.f74) Try.func74 rfl ?_
    show codeW P 74 24 none _ _ _ _ _
    refine codeW_root ?_
    repeat' (first | ((with_reducible refine st1 ?_); (conv => whnf); (with_reducible refine ⟨?_⟩)) | ((with_reducible refine retW_intro rfl ?_); (conv => arg 2; whnf)) | ((with_reducible first | refine iB ?_ ?_ | refine gWt ?_ ?_ | refine gWf ?_ ?_) <;> intro hb <;> (try simp only [hb])) | (simp only [B, F, reduceLT, reduceLeDiff, reduceEqDiff, reduceAdd, reduceMul, reduceSub, ↓reduceIte, eq_self, ez, e00, d1, d3, @b_geqS, @b_lssS, q2, Bool.not_false]))
    exact ⟨rfl, Og.refl _ _⟩
   ·have d3 : decide (fin = [0]) = false := decide_eq_false q3
    refine pushC_of_codeW (fn := Try.f74) (c := bodyC Try.f74) Try.func74 rfl ?_
    show codeW P 74 24 none _ _ _ _ _
    refine codeW_root ?_
    repeat' (first | ((with_reducible refine st1 ?_); (conv => whnf); (with_reducible refine ⟨?_⟩)) | ((with_reducible refine retW_intro rfl ?_); (conv => arg 2; whnf)) | ((with_reducible first | refine iB ?_ ?_ | refine gWt ?_ ?_ | refine gWf ?_ ?_) <;> intro hb <;> (try simp only [hb])) | (simp only [B, F, reduceLT, reduceLeDiff, reduceEqDiff, reduceAdd, reduceMul, reduceSub, ↓reduceIte, eq_self, ez, e00, d1, d3, @b_geqS, @b_lssS, q2, Bool.not_false]))
    exact ⟨rfl, Og.refl _ _⟩
def whenR (rev main comp : Nat) : Nat := if main < rev then 10 else if ¬ rev = 0 ∧ rev < comp then 9 else 0
def whenO (o : Op) (main comp : Nat) : Nat := if o.kind = 0 then whenR o.rev main comp else 0
set_option maxHeartbeats 4000000 in
theorem whenC (h : H) (o : Op) (main comp : Nat) : PushC P (.enter 40 [.agg o.cs, .int .u64 (.ofNat main), .int .u64 (.ofNat comp)] h) (SaysG h (.int .i64 (.ofNat (whenO o main comp)))) := by
 unfold Op.cs
 refine pushC_of_codeW (fn := Try.f40) (c := bodyC Try.f40) Try.func40 rfl ?_
 show codeW P 40 26 none _ _ _ _ _
 refine codeW_root ?_
 repeat' (first | ((with_reducible refine st1 ?_); (conv => whnf); (with_reducible refine ⟨?_⟩)) | ((with_reducible refine retW_intro rfl ?_); (conv => arg 2; whnf)) | ((with_reducible first | refine iB ?_ ?_ | refine gWt ?_ ?_ | refine gWf ?_ ?_) <;> intro hb <;> (try simp only [hb])) | (simp only [B, F, reduceLT, reduceLeDiff, reduceEqDiff, reduceAdd, reduceMul, reduceSub, ↓reduceIte, eq_self]))
 all_goals refine ⟨congrArg (AV.int .i64) (congrArg Int.ofNat ?_), (Og.refl _ _).new _ _⟩
 all_goals (simp only [whenO, whenR]; grind)
structure StW (h : H) (b main comp : Nat) : Prop where
 c1 : cellAt h b 1 = some (.int .u64 (.ofNat main))
 c2 : cellAt h b 2 = some (.int .u64 (.ofNat comp))
end
end Go.Proofs.Ytnedigoajoflaaa.M

namespace Go.Proofs.Ytnedigoajoflaaa.M
open Go Go.AX
noncomputable section
set_option maxRecDepth 100000
end
end Go.Proofs.Ytnedigoajoflaaa.M

namespace Go.Proofs.Ytnedigoajoflaaa.M
open Go Go.AX
noncomputable section
set_option maxRecDepth 100000
theorem Rec.len (x : Rec) : x.cs.length = 8 := rfl
theorem Rec.at {h : H} {b o n : Nat} {cap : Cap} {l : List Rec} (sl : SliceAt h (.slice b o n cap) n (l.flatMap Rec.cs)) {i : Nat} {x : Rec} (hx : l[i]? = some x) : cellAt h b (o + i * 8) = some (.int .u64 (.ofNat x.main)) ∧ cellAt h b (o + (i * 8 + 1)) = some (.int .u64 (.ofNat x.sub)) ∧ cellAt h b (o + (i * 8 + 2)) = some (.str x.kv.key) ∧ cellAt h b (o + (i * 8 + 3)) = some (.str x.kv.val) ∧ cellAt h b (o + (i * 8 + 4)) = some (.int .u64 (.ofNat x.kv.cre)) ∧ cellAt h b (o + (i * 8 + 5)) = some (.int .u64 (.ofNat x.kv.mod)) ∧ cellAt h b (o + (i * 8 + 6)) = some (.int .u64 (.ofNat x.kv.ver)) ∧ cellAt h b (o + (i * 8 + 7)) = some (.bool x.tomb) := by
 have g : ∀ k, k < 8 → cellAt h b (o + (i * 8 + k)) = x.cs[k]? := fun k hk => cells_at Rec.len sl hx hk
 exact ⟨g 0 (by omega), g 1 (by omega), g 2 (by omega), g 3 (by omega), g 4 (by omega), g 5 (by omega), g 6 (by omega), g 7 (by omega)⟩
theorem u45a : P.underlying 45 = some (.slice 94):= by kernel_rfl
def findS (key : List Nat) (main : Nat) (l : List Rec) : KV × Bool := l.foldl (fun s r => if r.kv.key = key ∧ r.main ≤ main then (r.kv, !r.tomb) else s) (kv0, false)
def findP (key : List Nat) (main : Nat) (l : List Rec) : KV × Bool := if (findS key main l).2 then ((findS key main l).1, true) else (kv0, false)
end
end Go.Proofs.Ytnedigoajoflaaa.M

namespace Go.Proofs.Ytnedigoajoflaaa.M
open Go Go.AX
noncomputable section
set_option maxRecDepth 100000
abbrev encS : List Nat → AV := AV.str
theorem u85a : P.underlying 85 = some (.map 9 94):= by kernel_rfl
theorem k9m : KeyT P 9 encS := keyT_str (by kernel_rfl)
abbrev View := List (List Nat × Rec)
def mR (W : View) : List (List Nat × AV) := W.map fun p => (p.1, .agg p.2.cs)
def putV (k : List Nat) (r : Rec) : View → View
 | [] => [(k, r)]
 | (a, x) :: W => if k = a then (a, r) :: W else (a, x) :: putV k r W
def delV (k : List Nat) : View → View
 | [] => []
 | (a, x) :: W => if k = a then W else (a, x) :: delV k W
def layV (W : View) (r : Rec) : View := if r.tomb then delV r.kv.key W else putV r.kv.key r W
theorem bxR (h : H) (c : Rec) : boxR h 94 c.cs = .val (.ptr h.nx 0) (h.newCells 94 c.cs) := boxR_ok rfl
theorem put_mR (k : List Nat) (r : Rec) : ∀ W : View, mapPut k (.agg r.cs) (mR W) = mR (putV k r W)
 | [] => rfl
 | (a, x) :: W => by
  have ih := put_mR k r W
  show mapPut k (.agg r.cs) ((a, .agg x.cs) :: mR W) = _
  unfold mapPut putV
  by_cases q : k = a
  ·rw [if_pos q, if_pos q]; rfl
  ·rw [if_neg q, if_neg q, ih]; rfl
theorem del_mR (k : List Nat) : ∀ W : View, mapDel k (mR W) = mR (delV k W)
 | [] => rfl
 | (a, x) :: W => by
  have ih := del_mR k W
  show mapDel k ((a, .agg x.cs) :: mR W) = _
  unfold mapDel delV
  by_cases q : k = a
  ·rw [if_pos q, if_pos q]
  ·rw [if_neg q, if_neg q, ih]; rfl
theorem layC (h0 : H) (r : Nat) (W : View) (x : Rec) (m : MapK encS h0 r (mR W)) : PushC P (.enter 33 [.map r, .agg x.cs] h0) (fun v h' => v = .tuple [] ∧ MapK encS h' r (mR (layV W x)) ∧ Og h0 h' [r]) := by
 have ltr := m.lt
 obtain ⟨h1, h1e⟩ : ∃ h1, h1 = h0.newCells 94 x.cs := ⟨_, rfl⟩
 have o1 : Og h0 h1 []:= by rw [h1e]; exact (Og.refl _ _).new _ _
 have bx1 : boxR h0 94 x.cs = .val (.ptr h0.nx 0) h1:= by rw [h1e]; exact bxR h0 x
 have c1 : ∀ j, cellAt h1 h0.nx j = x.cs[j]? := fun j => by rw [h1e, cellAt_new, if_pos rfl]
 have x1 : h1.nx = h0.nx + 1:= by rw [h1e]; rfl
 have y0 : cellAt h1 h0.nx 0 = some (.int .u64 (.ofNat x.main)) := c1 0
 have y1 : cellAt h1 h0.nx 1 = some (.int .u64 (.ofNat x.sub)) := c1 1
 have y2 : cellAt h1 h0.nx 2 = some (.str x.kv.key) := c1 2
 have y3 : cellAt h1 h0.nx 3 = some (.str x.kv.val) := c1 3
 have y4 : cellAt h1 h0.nx 4 = some (.int .u64 (.ofNat x.kv.cre)) := c1 4
 have y5 : cellAt h1 h0.nx 5 = some (.int .u64 (.ofNat x.kv.mod)) := c1 5
 have y6 : cellAt h1 h0.nx 6 = some (.int .u64 (.ofNat x.kv.ver)) := c1 6
 have y7 : cellAt h1 h0.nx 7 = some (.bool x.tomb) := c1 7
 have m1 := m.keep o1.1 (by simp)
 cases q : x.tomb with
 | true =>
  rw [q] at y7
  obtain ⟨h2, hd, m2, x2, o2, g2⟩ := bi_delete_k (P := P) u85a k9m m1 x.kv.key [9] []
  rw [del_mR] at m2
  have e : layV W x = delV x.kv.key W:= by unfold layV; rw [q]; rfl
  rw [e]
  refine pushC_of_codeW (fn := Try.f33) (c := bodyC Try.f33) Try.func33 rfl ?_
  show codeW P 33 15 none _ _ _ _ _
  refine codeW_root ?_
  refine rN ?_ (V bx1<|V y2<|V y7<|hd)
  exact ⟨rfl, m2, o1.s1 ⟨o2, g2⟩⟩
 | false =>
  rw [q] at y7
  obtain ⟨h2, hu, m2, x2, o2, g2⟩ := update_k (P := P) u85a k9m m1 x.kv.key (.agg x.cs)
  rw [put_mR] at m2
  have e : layV W x = putV x.kv.key x W:= by unfold layV; rw [q]; rfl
  rw [e]
  refine pushC_of_codeW (fn := Try.f33) (c := bodyC Try.f33) Try.func33 rfl ?_
  show codeW P 33 15 none _ _ _ _ _
  refine codeW_root ?_
  have hu2 : updateA P 85 (.map r) (.str x.kv.key) (.agg [.int .u64 (.ofNat x.main), .int .u64 (.ofNat x.sub), .str x.kv.key, .str x.kv.val, .int .u64 (.ofNat x.kv.cre), .int .u64 (.ofNat x.kv.mod), .int .u64 (.ofNat x.kv.ver), .bool false]) h1 = some h2 := by
   have h := hu
   unfold Rec.cs at h
   rw [q] at h
   exact h
  repeat' (first | ((with_reducible refine st1 ?_); (conv => whnf); (with_reducible refine ⟨?_⟩)) | ((with_reducible refine retW_intro rfl ?_); (conv => arg 2; whnf)) | ((with_reducible first | refine iB ?_ ?_ | refine gWt ?_ ?_ | refine gWf ?_ ?_) <;> intro hb <;> (try simp only [hb])) | (simp only [B, F, reduceLT, reduceLeDiff, reduceEqDiff, reduceAdd, reduceMul, reduceSub, ↓reduceIte, eq_self, bx1, y0, y1, y2, y3, y4, y5, y6, y7, @ex_mapUpdate, hu2, oH_some]))
  exact ⟨_, rfl, _, rfl, rfl, m2, o1.s1 ⟨o2, g2⟩⟩
end
end Go.Proofs.Ytnedigoajoflaaa.M

namespace Go.Proofs.Ytnedigoajoflaaa.M
open Go Go.AX
noncomputable section
set_option maxRecDepth 100000
theorem KV.at {h : H} {b o n : Nat} {cap : Cap} {l : List KV} (sl : SliceAt h (.slice b o n cap) n (l.flatMap KV.cs)) {i : Nat} {x : KV} (hx : l[i]? = some x) : cellAt h b (o + i * 5) = some (.str x.key) ∧ cellAt h b (o + (i * 5 + 1)) = some (.str x.val) ∧ cellAt h b (o + (i * 5 + 2)) = some (.int .u64 (.ofNat x.cre)) ∧ cellAt h b (o + (i * 5 + 3)) = some (.int .u64 (.ofNat x.mod)) ∧ cellAt h b (o + (i * 5 + 4)) = some (.int .u64 (.ofNat x.ver)) := by
 have g : ∀ k, k < 5 → cellAt h b (o + (i * 5 + k)) = x.cs[k]? := fun k hk => cells_at KV.len sl hx hk
 exact ⟨g 0 (by omega), g 1 (by omega), g 2 (by omega), g 3 (by omega), g 4 (by omega)⟩
theorem u44a : P.underlying 44 = some (.slice 55):= by kernel_rfl
theorem eqS_self (a : List Nat) : listEqB a a = true := (listEqB_iff a a).2 rfl
structure SmI (h0 : H) (va vb : AV) (n : Nat) (m : Nat) (ds : List Nat) (tm : T AV) (h : H) (i : Nat) : Prop where
 ds : ds = []
 nn : m = n - i
 ii : i ≤ n
 t0 : tm.get 0 = some va
 t1 : tm.get 1 = some vb
 t5 : tm.get 5 = some (.int .i64 (.ofNat i))
 oo : Og h0 h []
theorem sameKVs (h0 : H) (va vb : AV) (l : List KV) (sa : SliceAt h0 va l.length (l.flatMap KV.cs)) (sb : SliceAt h0 vb l.length (l.flatMap KV.cs)) (hz : l.length ≤ 1000000) : PushC P (.enter 15 [va, vb] h0) (SaysG h0 (.bool true)) := by
 have hla := sa.len (P := P) u44a
 have hlb := sb.len (P := P) u44a
 have dd : decide (l.length = l.length) = true := decide_eq_true rfl
 refine pushC_of_codeW (fn := Try.f15) (c := bodyC Try.f15) Try.func15 rfl ?_
 show codeW P 15 26 none _ _ _ _ _
 refine codeW_root ?_
 refine rN ?_ (V hla<|V hlb<|V dd<|@Bool.not_true)
 refine st_loop (fun m ds tm h => ∃ i, SmI h0 va vb l.length m ds tm h i) l.length rfl ⟨0, rfl, rfl, Nat.zero_le _, by exact sT, by exact sT, by exact sT, Og.refl _ _⟩ (fun m ds tm h hI => ?_)
 obtain ⟨i, rfl, rfl, ii, t0, t1, t5, oo⟩ := hI
 by_cases hi : i < l.length
 ·have d1 : decide (i < l.length) = true := decide_eq_true hi
  have lt1 : (i < l.length) = True:= by simp [hi]
  obtain ⟨x, hx⟩ : ∃ x, l[i]? = some x := ⟨_, List.getElem?_eq_getElem hi⟩
  have sah := SliceAt.only oo.1 sa (fun _ _ => by simp)
  have sbh := SliceAt.only oo.1 sb (fun _ _ => by simp)
  obtain ⟨bv, ov, cv, rfl, hbv, -⟩ := sa.place (by omega)
  obtain ⟨bw, ow, cw, rfl, hbw, -⟩ := sb.place (by omega)
  obtain ⟨a0, a1, a2, a3, a4⟩ := KV.at sah hx
  obtain ⟨b0, b1, b2, b3, b4⟩ := KV.at sbh hx
  have w1 : wrapF .i64 (Int.ofNat i + Int.ofNat 1) = Int.ofNat (i + 1) := i64_add (by omega)
  have e1 := eqS_self x.key
  have e2 := eqS_self x.val
  have e3 : decide (x.cre = x.cre) = true := decide_eq_true rfl
  have e4 : decide (x.mod = x.mod) = true := decide_eq_true rfl
  have e5 : decide (x.ver = x.ver) = true := decide_eq_true rfl
  refine rT ?_ (V t0<|V t1<|V t5<|V hla<|V hlb<|V d1<|V lt1<|V a0<|V a1<|V a2<|V a3<|V a4<|V b0<|V b1<|V b2<|V b3<|V b4<|V e1<|V e2<|V e3<|V e4<|V e5<|w1)
  exact ⟨l.length - (i + 1), by omega, i + 1, rfl, rfl, by omega, by exact sT, by exact sT, by exact sT, oo⟩
 ·have d1 : decide (i < l.length) = false := decide_eq_false hi
  refine rN ?_ (V t0<|V t1<|V t5<|V hla<|V hlb<|d1)
  exact ⟨rfl, oo⟩
end
end Go.Proofs.Ytnedigoajoflaaa.M

namespace Go.Proofs.Ytnedigoajoflaaa.M
open Go Go.AX
noncomputable section
set_option maxRecDepth 100000
structure MdAt (h : H) (b : Nat) (L : List Rec) (rev comp : Nat) (v : AV) : Prop where
 lt : b < h.nx
 c0 : cellAt h b 0 = some v
 c1 : cellAt h b 1 = some (.int .u64 (.ofNat rev))
 c2 : cellAt h b 2 = some (.int .u64 (.ofNat comp))
 wr : wrAt h b = true
 sl : SliceAt h v L.length (L.flatMap Rec.cs)
theorem upToC (h0 : H) (b main : Nat) : PushC P (.enter 32 [.ptr b 0, .int .u64 (.ofNat main)] h0) (fun v h' => v = .func 56 [] [.ptr h0.nx 0, .ptr (h0.nx + 1) 0] ∧ h' = (h0.newCells 23 [.ptr b 0]).newCells 27 [.int .u64 (.ofNat main)]) := by
 refine pushC_of_codeW (fn := Try.f32) (c := bodyC Try.f32) Try.func32 rfl ?_
 show codeW P 32 6 none _ _ _ _ _
 refine codeW_root ?_
 repeat' (first | ((with_reducible refine st1 ?_); (conv => whnf); (with_reducible refine ⟨?_⟩)) | ((with_reducible refine retW_intro rfl ?_); (conv => arg 2; whnf)) | ((with_reducible first | refine iB ?_ ?_ | refine gWt ?_ ?_ | refine gWf ?_ ?_) <;> intro hb <;> (try simp only [hb])) | (simp only [B, F, reduceLT, reduceLeDiff, reduceEqDiff, reduceAdd, reduceMul, reduceSub, ↓reduceIte, eq_self]))
theorem newC (h0 : H) : PushC P (.enter 5 [] h0) (fun v h' => v = .ptr h0.nx 0 ∧ Og h0 h' [] ∧ MdAt h' h0.nx [] 1 0 .nilslice ∧ h'.nx = h0.nx + 1) := by
 obtain ⟨h1, h1e⟩ : ∃ h1, h1 = h0.newCells 47 [.nilslice, .int .u64 (.ofNat 1), .int .u64 (.ofNat 0)] := ⟨_, rfl⟩
 have o1 : Og h0 h1 []:= by rw [h1e]; exact (Og.refl _ _).new _ _
 have x1 : h1.nx = h0.nx + 1:= by rw [h1e]; rfl
 have k : MdAt h1 h0.nx [] 1 0 .nilslice := ⟨by omega, by rw [h1e, cellAt_new, if_pos rfl]; rfl, by rw [h1e, cellAt_new, if_pos rfl]; rfl, by rw [h1e, cellAt_new, if_pos rfl]; rfl, by rw [h1e, wrAt_new, if_pos rfl], .none⟩
 refine pushC_of_codeW (fn := Try.f5) (c := bodyC Try.f5) Try.func5 rfl ?_
 show codeW P 5 3 none _ _ _ _ _
 refine codeW_root ?_
 refine rN ?_ (h1e.symm)
 exact ⟨o1, k, x1⟩
structure StAt (h : H) (b : Nat) (L : List Rec) (rev comp : Nat) (v : AV) : Prop where
 lt : b < h.nx
 c0 : cellAt h b 0 = some v
 c1 : cellAt h b 1 = some (.int .u64 (.ofNat rev))
 c2 : cellAt h b 2 = some (.int .u64 (.ofNat comp))
 wr : wrAt h b = true
 sl : SliceAt h v L.length (L.flatMap Rec.cs)
theorem StAt.w {h : H} {b : Nat} {L : List Rec} {rev comp : Nat} {v : AV} (s : StAt h b L rev comp v) : StW h b rev comp := ⟨s.c1, s.c2⟩
end
end Go.Proofs.Ytnedigoajoflaaa.M

namespace Go.Proofs.Ytnedigoajoflaaa.M
open Go Go.AX
noncomputable section
set_option maxRecDepth 100000
theorem recBox (h : H) (x : Rec) : ∃ h1, (h.newCells 94 [.int .u64 (.ofNat 0), .int .u64 (.ofNat 0), .str [], .str [], .int .u64 (.ofNat 0), .int .u64 (.ofNat 0), .int .u64 (.ofNat 0), .bool false]).sts h.nx 0 [.int .u64 (.ofNat x.main), .int .u64 (.ofNat x.sub), .str x.kv.key, .str x.kv.val, .int .u64 (.ofNat x.kv.cre), .int .u64 (.ofNat x.kv.mod), .int .u64 (.ofNat x.kv.ver), .bool x.tomb] = h1 ∧ Og h h1 [] ∧ h1.nx = h.nx + 1 ∧
  cellAt h1 h.nx 0 = some (.int .u64 (.ofNat x.main)) ∧ cellAt h1 h.nx 1 = some (.int .u64 (.ofNat x.sub)) ∧ cellAt h1 h.nx 2 = some (.str x.kv.key) ∧ cellAt h1 h.nx 3 = some (.str x.kv.val) ∧ cellAt h1 h.nx 4 = some (.int .u64 (.ofNat x.kv.cre)) ∧ cellAt h1 h.nx 5 = some (.int .u64 (.ofNat x.kv.mod)) ∧ cellAt h1 h.nx 6 = some (.int .u64 (.ofNat x.kv.ver)) ∧ cellAt h1 h.nx 7 = some (.bool x.tomb) ∧ wrAt h1 h.nx = true := by
 refine ⟨_, rfl, ((Og.refl _ _).new _ _).sts (.inr (Nat.le_refl _)), by rw [nx_sts, nx_new], ?_⟩
 have c : ∀ j, j < 8 → cellAt ((h.newCells 94 [.int .u64 (.ofNat 0), .int .u64 (.ofNat 0), .str [], .str [], .int .u64 (.ofNat 0), .int .u64 (.ofNat 0), .int .u64 (.ofNat 0), .bool false]).sts h.nx 0 x.cs) h.nx j = x.cs[j]? := fun j hj => by
  rw [cellAt_sts (by rw [wrAt_new, if_pos rfl]), if_pos ⟨rfl, Nat.zero_le _, by show j < 0 + 8; omega⟩, Nat.sub_zero]
 exact ⟨c 0 (by omega), c 1 (by omega), c 2 (by omega), c 3 (by omega), c 4 (by omega), c 5 (by omega), c 6 (by omega), c 7 (by omega), by rw [wrAt_sts, wrAt_new, if_pos rfl]⟩
structure UpI (l b2 : Nat) (v : AV) (n : Nat) (J : Nat → H → Prop) (m : Nat) (ds : List Nat) (tm : T AV) (h : H) (i : Nat) : Prop where
 ds : ds = []
 nn : m = n - i
 ii : i ≤ n
 t0 : tm.get 0 = some (.yield l)
 t2 : tm.get 2 = some (.ptr b2 0)
 t9 : tm.get 9 = some v
 t10 : tm.get 10 = some (.int .i64 (.ofNat n))
 t11 : tm.get 11 = some (.int .i64 (.ofNat i))
 jj : J i h
theorem upToRun (h0 : H) (l b1 b2 bm main : Nat) (v : AV) (L : List Rec) (hz : L.length ≤ 1000000) (J : Nat → H → Prop)
  (k1 : cellAt h0 b1 0 = some (.ptr bm 0)) (km : cellAt h0 bm 0 = some v) (sl0 : SliceAt h0 v L.length (L.flatMap Rec.cs))
  (hJs : ∀ i h h', J i h → Og h h' [] → J i h')
  (hJX : ∀ i h, J i h → cellAt h b2 0 = some (.int .u64 (.ofNat main)) ∧ SliceAt h v L.length (L.flatMap Rec.cs) ∧ b2 < h.nx)
  (hJr : ∀ i h x, J i h → L[i]? = some x → x.main ≤ main → PushC P (.round l [.agg x.cs] h) fun v h' => v = .bool true ∧ J (i + 1) h')
  (hJk : ∀ i h x, J i h → L[i]? = some x → ¬ x.main ≤ main → J (i + 1) h) (h0J : J 0 h0) :
  PushC P (.enter 56 [.yield l, .ptr b1 0, .ptr b2 0] h0) fun _ h' => J L.length h' := by
 have hlen := sl0.len (P := P) u45a
 refine pushC_of_codeW (fn := Try.f56) (c := bodyC Try.f56) Try.func56 rfl ?_
 show codeW P 56 27 none _ _ _ _ _
 refine codeW_root ?_
 refine rN ?_ (V k1<|V km<|hlen)
 refine st_loop (fun m ds tm h => ∃ i, UpI l b2 v L.length J m ds tm h i) L.length rfl ⟨0, rfl, rfl, Nat.zero_le _, by exact sT, by exact sT, by exact sT, by exact sT, by exact sT, h0J⟩ (fun m ds tm h hI => ?_)
 obtain ⟨i, rfl, rfl, ii, t0, t2, t9, t10, t11, jj⟩ := hI
 obtain ⟨k2, sl, hb2⟩ := hJX _ _ jj
 by_cases hi : i < L.length
 ·have di : decide (i < L.length) = true := decide_eq_true hi
  have lt1 : (i < L.length) = True:= by simp [hi]
  obtain ⟨x, hx⟩ : ∃ x, L[i]? = some x := ⟨_, List.getElem?_eq_getElem hi⟩
  obtain ⟨bv, ov, cv, rfl, hbv, -⟩ := sl.place (by omega)
  obtain ⟨q0, q1, q2, q3, q4, q5, q6, q7⟩ := Rec.at sl hx
  obtain ⟨h1, h1e, o1, x1, y0, y1, y2, y3, y4, y5, y6, y7, -⟩ := recBox h x
  have k2' := kc k2 o1 hb2 (by simp)
  have jj1 := hJs _ _ _ jj o1
  have w1 : wrapF .i64 (Int.ofNat i + Int.ofNat 1) = Int.ofNat (i + 1) := i64_add (by omega)
  by_cases p : x.main ≤ main
  ·have d2 : decide (x.main ≤ main) = true := decide_eq_true p
   refine rN ?_ (V t0<|V t2<|V t9<|V t10<|V t11<|V hlen<|V di<|V lt1<|V q0<|V q1<|V q2<|V q3<|V q4<|V q5<|V q6<|V q7<|V h1e<|V y0<|V y1<|V y2<|V y3<|V y4<|V y5<|V y6<|V y7<|V k2'<|d2)
   refine ((hJr i h1 x jj1 hx p).call P).mono P ?_
   rintro _ h2 ⟨rfl, jj2⟩
   refine rN ?_ (V @Bool.not_true<|V w1<|t11)
   exact ⟨L.length - (i + 1), by omega, i + 1, rfl, rfl, by omega, by exact sT, by exact sT, by exact sT, by exact sT, by exact sT, jj2⟩
  ·have d2 : decide (x.main ≤ main) = false := decide_eq_false p
   refine rN ?_ (V t0<|V t2<|V t9<|V t10<|V t11<|V hlen<|V di<|V lt1<|V q0<|V q1<|V q2<|V q3<|V q4<|V q5<|V q6<|V q7<|V h1e<|V y0<|V y1<|V y2<|V y3<|V y4<|V y5<|V y6<|V y7<|V k2'<|V d2<|w1)
   exact ⟨L.length - (i + 1), by omega, i + 1, rfl, rfl, by omega, by exact sT, by exact sT, by exact sT, by exact sT, by exact sT, hJk i h1 x jj1 hx p⟩
 ·have di : decide (i < L.length) = false := decide_eq_false hi
  obtain rfl : i = L.length:= by omega
  refine rN ?_ (V t0<|V t2<|V t9<|V t10<|V t11<|V hlen<|di)
  rw [retK_norm]
  exact ⟨_, rfl, _, rfl, jj⟩
def atV (main : Nat) (L : List Rec) : View := L.foldl (fun W r => if r.main ≤ main then layV W r else W) []
theorem atV_s {main : Nat} {L : List Rec} {i : Nat} {r : Rec} (h : L[i]? = some r) : atV main (L.take (i + 1)) = if r.main ≤ main then layV (atV main (L.take i)) r else atV main (L.take i) := by
 unfold atV
 rw [List.take_add_one, h, List.foldl_append]; rfl
structure AtJ (hk : H) (ro : Nat) (R : ALoop) (W : View) (h : H) : Prop where
 nx : hk.nx + 2 ≤ h.nx
 old : ∀ b, b < hk.nx → b ≠ ro → h.t.get b = hk.t.get b
 lp : h.t.get (hk.nx + 1) = some (.loop R)
 df : h.t.get hk.nx = some (.deferred (some []))
 mp : MapK encS h ro (mR W)
 g : h.g = hk.g
theorem AtJ.keep {hk : H} {ro : Nat} {R : ALoop} {W : View} {h h' : H} (j : AtJ hk ro R W h) (o : Og h h' []) : AtJ hk ro R W h' :=
 ⟨Nat.le_trans j.nx o.1.1, fun b hb hn => (o.1.2 b (by have := j.nx; omega) (by simp)).trans (j.old b hb hn), (o.1.2 _ (by have := j.nx; omega) (by simp)).trans j.lp, (o.1.2 _ (by have := j.nx; omega) (by simp)).trans j.df, j.mp.keep o.1 (by simp), o.2.trans j.g⟩
theorem AtJ.put {hk : H} {ro : Nat} {R : ALoop} {W W' : View} {h h' : H} (j : AtJ hk ro R W h) (o : Og h h' [ro]) (hro : ro < hk.nx) (m : MapK encS h' ro (mR W')) : AtJ hk ro R W' h' :=
 ⟨Nat.le_trans j.nx o.1.1, fun b hb hn => (o.1.2 b (by have := j.nx; omega) (by simp [hn])).trans (j.old b hb hn), (o.1.2 _ (by have := j.nx; omega) (by simp; omega)).trans j.lp, (o.1.2 _ (by have := j.nx; omega) (by simp; omega)).trans j.df, m, o.2.trans j.g⟩
theorem AtJ.state {hk : H} {ro : Nat} {R R' : ALoop} {W : View} {h : H} (j : AtJ hk ro R W h) (hro : ro < hk.nx) : AtJ hk ro R' W (h.obj (hk.nx + 1) (.loop R')) :=
 ⟨j.nx, fun b hb hn => by rw [get_obj_ne (by omega)]; exact j.old b hb hn, get_obj_self _ _, by rw [get_obj_ne (by omega)]; exact j.df, j.mp.get (Nat.le_refl _) (get_obj_ne (by omega) _), j.g⟩
noncomputable abbrev loop29 (hk : H) (tm : T AV) : ALoop := loopR 29 16 tm [11] (codeI (bodyC Try.f29) [0, 0, 1, 0, 1, 1]) (codeI (bodyC Try.f29) [1, 0, 1, 0, 1, 1]) hk.nx .ready
theorem round29 (hk : H) (ro b5 : Nat) (tm : T AV) (t5 : tm.get 5 = some (.ptr b5 0)) (cb : cellAt hk b5 0 = some (.map ro)) (hb5 : b5 < hk.nx) (hro : ro < hk.nx) (hne : b5 ≠ ro) (h : H) (x : Rec) (W : View) (hj : AtJ hk ro (loop29 hk tm) W h) :
  PushC P (.round (hk.nx + 1) [.agg x.cs] h) fun v h' => v = .bool true ∧ AtJ hk ro (loop29 hk tm) (layV W x) h' := by
 refine round_walk (tm := tm.set 11 (some (.agg x.cs))) hj.lp rfl ?_
 show codeW P 29 16 (some (hk.nx + 1)) (codeI (bodyC Try.f29) [0, 0, 1, 0, 1, 1]) _ _ _ _
 obtain ⟨h1, h1e, o1, x1, y0, y1, y2, y3, y4, y5, y6, y7, -⟩ := recBox h x
 have j1 := hj.keep o1
 have xk := hj.nx
 unfold Rec.cs
 refine rN ?_ (h1e)
 refine asg_norm j1.lp rfl ?_
 show codeW P 29 16 (some (hk.nx + 1)) (codeI (bodyC Try.f29) [1, 0, 1, 0, 1, 1]) _ _ _ _
 have j2 : AtJ hk ro { loop29 hk tm with state := .busy } W (h1.obj (hk.nx + 1) (.loop { loop29 hk tm with state := .busy })) := j1.state hro
 obtain ⟨h2, e2⟩ : ∃ h2, h2 = h1.obj (hk.nx + 1) (.loop { loop29 hk tm with state := .busy }) := ⟨_, rfl⟩
 have y : ∀ j, cellAt h2 h.nx j = cellAt h1 h.nx j := fun j => by rw [e2]; exact cellAt_of_get (get_obj_ne (by omega) _) _
 rw [← e2] at j2
 have cb2 : cellAt h2 b5 0 = some (.map ro):= by rw [cellAt_of_get (j2.old b5 hb5 hne)]; exact cb
 rw [← y] at y0 y1 y2 y3 y4 y5 y6 y7
 rw [← e2]
 refine rN ?_ (V t5<|V cb2<|V y0<|V y1<|V y2<|V y3<|V y4<|V y5<|V y6<|y7)
 refine ((layC h2 ro W x j2.mp).call P).mono P ?_
 rintro _ h3 ⟨rfl, m3, o3⟩
 have j3 := j2.put o3 hro m3
 refine rN0 ?_
 exact roundEnd_norm (r := loop29 hk tm) j3.lp rfl rfl ⟨rfl, j3.state hro⟩
theorem loop29C (hk : H) (ro b5 b1 b2 bm main : Nat) (v : AV) (L : List Rec) (hz : L.length ≤ 1000000) (ds : List Nat) (tm : T AV) (K : KQ) (t10 : tm.get 10 = some (.func 56 [] [.ptr b1 0, .ptr b2 0])) (t5 : tm.get 5 = some (.ptr b5 0)) (cb : cellAt hk b5 0 = some (.map ro)) (hb5 : b5 < hk.nx) (hne : b5 ≠ ro)
  (mp : MapK encS hk ro []) (k1 : cellAt hk b1 0 = some (.ptr bm 0)) (k2 : cellAt hk b2 0 = some (.int .u64 (.ofNat main))) (km : cellAt hk bm 0 = some v) (sl : SliceAt hk v L.length (L.flatMap Rec.cs)) (hb1 : b1 < hk.nx) (hb2 : b2 < hk.nx) (hbm : bm < hk.nx) (n2 : b2 ≠ ro) (nv : blkOf v ≠ some ro)
  (hK : ∀ h2, hk.nx + 2 ≤ h2.nx → (∀ b, b < hk.nx → b ≠ ro → h2.t.get b = hk.t.get b) → h2.t.get hk.nx = some (.deferred (some [])) → h2.g = hk.g → MapK encS h2 ro (mR (atV main L)) → K .norm (hk.nx :: ds) tm h2) :
  codeW P 29 16 none (codeI (bodyC Try.f29) [0, 1, 0, 1, 1]) ds tm hk K := by
 have hro := mp.lt
 refine st_rf rfl (f := .tmp 10) (ps := #[11]) rfl rfl ?_
 refine rf_walk (g := 56) (cap := [.ptr b1 0, .ptr b2 0]) (by rw [evalA_tmp, t10]; rfl) (fun args h => callV_func 56 (by kernel_rfl) [] _ args) ?_
 have hbase : ∀ b, b < hk.nx → (loopH hk 29 16 tm [11] (codeI (bodyC Try.f29) [0, 0, 1, 0, 1, 1]) (codeI (bodyC Try.f29) [1, 0, 1, 0, 1, 1])).t.get b = hk.t.get b := fun b hb => by rw [loopH_get, if_neg (by omega), if_neg (by omega)]
 have hJ0 : AtJ hk ro (loop29 hk tm) [] (loopH hk 29 16 tm [11] (codeI (bodyC Try.f29) [0, 0, 1, 0, 1, 1]) (codeI (bodyC Try.f29) [1, 0, 1, 0, 1, 1])) :=
  ⟨by rw [loopH_nx]; omega, fun b hb _ => hbase b hb, by rw [loopH_get, if_pos rfl], by rw [loopH_get, if_neg (by omega), if_pos rfl], mp.get (by rw [loopH_nx]; omega) (hbase _ hro), rfl⟩
 have hsl : ∀ h', (∀ b, b < hk.nx → b ≠ ro → h'.t.get b = hk.t.get b) → hk.nx ≤ h'.nx → SliceAt h' v L.length (L.flatMap Rec.cs) := fun h' old hx => SliceAt.only (S := [ro]) ⟨hx, fun b hb hn => old b hb (by simpa using hn)⟩ sl (fun b hb => by simp; intro e; subst e; exact nv hb)
 refine (upToRun _ (hk.nx + 1) b1 b2 bm main v L hz (fun i h => AtJ hk ro (loop29 hk tm) (atV main (L.take i)) h) (by rw [cellAt_of_get (hbase _ hb1)]; exact k1) (by rw [cellAt_of_get (hbase _ hbm)]; exact km) (hsl _ (fun b hb _ => hbase b hb) (by rw [loopH_nx]; omega)) (fun i h h' j o => j.keep o)
  (fun i h j => ⟨by rw [cellAt_of_get (j.old _ hb2 n2)]; exact k2, hsl _ j.old (by have := j.nx; omega), by have := j.nx; omega⟩) (fun i h x j hx p => by rw [atV_s hx, if_pos p]; exact round29 hk ro b5 tm t5 cb hb5 hro hne h x _ j)
  (fun i h x j hx p => by rw [atV_s hx, if_neg p]; exact j) hJ0).mono P ?_
 rintro _ h2 j
 rw [List.take_length] at j
 refine ⟨j.lp, ?_⟩
 have j2 : AtJ hk ro { loop29 hk tm with state := .exhausted } _ _ := j.state (R' := { loop29 hk tm with state := .exhausted }) hro
 exact hK _ j2.nx j2.old j2.df j2.g j2.mp
theorem mk85 (tm : T AV) (h : H) : execA P tm h (.makeMap 85 none) = .val (.map h.nx) (h.alloc (.map [] 0)):= by simp only [execA, u85a, evalO]
theorem atC (h0 : H) (b main : Nat) (L : List Rec) (v : AV) (hb : b < h0.nx) (c0 : cellAt h0 b 0 = some v) (sl : SliceAt h0 v L.length (L.flatMap Rec.cs)) (hz : L.length ≤ 1000000) (nv : ∀ c, blkOf v = some c → c < h0.nx) :
  PushC P (.enter 29 [.ptr b 0, .int .u64 (.ofNat main)] h0) fun w h' => ∃ ro, w = .map ro ∧ h0.nx ≤ ro ∧ Og h0 h' [] ∧ MapK encS h' ro (mR (atV main L)) := by
 obtain ⟨h1, h1e⟩ : ∃ h1, h1 = ((h0.alloc (.map [] 0)).newCells 85 [.nilmap]).sts (h0.nx + 1) 0 [.map h0.nx] := ⟨_, rfl⟩
 have o1 : Og h0 h1 []:= by rw [h1e]; exact (((Og.refl _ _).alloc _).new _ _).sts (.inr (by omega))
 have x1 : h1.nx = h0.nx + 2:= by rw [h1e, nx_sts, nx_new]; rfl
 have e1 : (h0.alloc (.map [] 0)).nx = h0.nx + 1 := rfl
 have c5 : cellAt h1 (h0.nx + 1) 0 = some (.map h0.nx):= by rw [h1e, cellAt_sts (by rw [wrAt_new, if_pos e1.symm]), if_pos ⟨rfl, Nat.zero_le _, by simp⟩]; rfl
 have m1 : MapK encS h1 h0.nx [] := by
  rw [h1e]
  exact (newMap h0 encS).get (by rw [nx_sts, nx_new]; omega) (by rw [get_sts _ _ _ _ (by omega), get_new _ _ _ (by omega)])
 refine pushC_of_codeW (fn := Try.f29) (c := bodyC Try.f29) Try.func29 rfl ?_
 show codeW P 29 16 none _ _ _ _ _
 refine codeW_root ?_
 refine rN ?_ (V mk85<|V e1<|h1e.symm)
 refine ((upToC h1 b main).call P).mono P ?_
 rintro _ h2 ⟨rfl, h2e⟩
 have o2 : Og h1 h2 []:= by rw [h2e]; exact ((Og.refl _ _).new _ _).new _ _
 have x2 : h2.nx = h0.nx + 4:= by rw [h2e, nx_new, nx_new, x1]
 have q1 : cellAt h2 h1.nx 0 = some (.ptr b 0):= by rw [h2e, cellAt_new, if_neg (by rw [nx_new]; omega), cellAt_new, if_pos rfl]; rfl
 have q2 : cellAt h2 (h1.nx + 1) 0 = some (.int .u64 (.ofNat main)):= by rw [h2e, cellAt_new, if_pos (by rw [nx_new])]; rfl
 have o12 := o1.t o2
 refine rN0 ?_
 refine loop29C h2 h0.nx (h0.nx + 1) h1.nx (h1.nx + 1) b main v L hz [] _ _ (by exact sT) (by exact sT) (kc c5 o2 (by omega) (by simp)) (by omega) (by omega) (m1.keep o2.1 (by simp)) q1 q2 (kc c0 o12 hb (by simp)) (SliceAt.only o12.1 sl (fun _ _ => by simp)) (by omega) (by omega) (by omega) (by omega) (fun e => by have := nv _ e; omega) ?_
 intro h3 x3 old3 df3 g3 m3
 have c53 : cellAt h3 (h0.nx + 1) 0 = some (.map h0.nx):= by rw [cellAt_of_get (old3 _ (by omega) (by omega))]; exact kc c5 o2 (by omega) (by simp)
 refine rN ?_ (c53)
 refine retW_undef df3 rfl ?_
 (conv => arg 2; whnf)
 simp only [B, F, reduceLT, reduceLeDiff, reduceEqDiff, reduceAdd, reduceMul, reduceSub, ↓reduceIte, eq_self]
 refine ⟨h0.nx, rfl, Nat.le_refl _, ⟨⟨by rw [nx_obj]; omega, fun c hc hn => ?_⟩, ?_⟩, m3.get (Nat.le_refl _) (get_obj_ne (by omega) _)⟩
 ·rw [get_obj_ne (by omega), old3 c (by omega) (by omega)]; exact o12.1.2 c hc (by simp)
 ·show h3.g = h0.g
  rw [g3]; exact o12.2
end
end Go.Proofs.Ytnedigoajoflaaa.M

namespace Go.Proofs
open Go.Shelf
def Try.keys55_ren : Go.Shelf.Ren := ⟨fun | 7 => 55 | 10 => 77 | n => n, fun | 23 => 85 | 26 => 9 | 3 => 94 | 28 => 121 | 0 => 0 | 27 => 120 | 33 => 136 | 4 => 4 | n => n, fun | n => n⟩
theorem Try.keys55 : Go.Proofs.SlLaysZ.n7 Try.prog Try.keys55_ren := {
 mixed:= by kernel_rfl
 f7 := ⟨Try.f55.name, by decide, Try.func55.trans (congrArg some (by kernel_rfl))⟩
 f10 := ⟨Try.f77.name, by decide, Try.func77.trans (congrArg some (by kernel_rfl))⟩
 t0 := Try.underlying0
 a0 := Try.isAgg0
 z0 := Try.sizeOf0
 v0 := Try.zeroValue0
 t4 := Try.underlying4
 a4 := Try.isAgg4
 z4 := Try.sizeOf4
 v4 := Try.zeroValue4
 t23 := Try.underlying85
 a23 := Try.isAgg85
 z23 := Try.sizeOf85
 v23 := Try.zeroValue85
 t26 := Try.underlying9
 a26 := Try.isAgg9
 z26 := Try.sizeOf9
 v26 := Try.zeroValue9
 t27 := Try.underlying120
 a27 := Try.isAgg120
 z27 := Try.sizeOf120
 v27 := Try.zeroValue120
 t28 := Try.underlying121
 a28 := Try.isAgg121
 z28 := Try.sizeOf121
 v28 := Try.zeroValue121
 t33 := Try.underlying136
 a33 := Try.isAgg136
 z33 := Try.sizeOf136
 v33 := Try.zeroValue136 }
def Try.sorted54_ren : Go.Shelf.Ren := ⟨fun | 6 => 54 | 8 => 75 | 9 => 76 | 11 => 82 | 13 => 84 | 12 => 83 | 23 => 96 | 24 => 97 | 14 => 87 | 15 => 88 | 16 => 89 | 17 => 90 | 18 => 91 | 19 => 92 | 20 => 93 | 21 => 94 | 22 => 95 | 25 => 98 | 26 => 99 | 27 => 100 | 28 => 101 | 29 => 102 | 30 => 86 | 31 => 103 | n => n, fun | 26 => 9 | 28 => 121 | 24 => 118 | 0 => 0 | 3 => 3 | 37 => 144 | 48 => 36 | 50 => 27 | 4 => 4 | 40 => 148 | 39 => 147 | 45 => 153 | 5 => 5 | 9 => 9 | 51 => 157 | 55 => 161 | 57 => 163 | 58 => 164 | 33 => 136 | n => n, fun | n => n⟩
theorem Try.sorted54 : Go.Proofs.SlLaysZ.n6 Try.prog Try.sorted54_ren := {
 mixed:= by kernel_rfl
 f6 := ⟨Try.f54.name, by decide, Try.func54.trans (congrArg some (by kernel_rfl))⟩
 f8 := ⟨Try.f75.name, by decide, Try.func75.trans (congrArg some (by kernel_rfl))⟩
 f11 := ⟨Try.f82.name, by decide, Try.func82.trans (congrArg some (by kernel_rfl))⟩
 t0 := Try.underlying0
 a0 := Try.isAgg0
 z0 := Try.sizeOf0
 v0 := Try.zeroValue0
 t24 := Try.underlying118
 a24 := Try.isAgg118
 z24 := Try.sizeOf118
 v24 := Try.zeroValue118
 t26 := Try.underlying9
 a26 := Try.isAgg9
 z26 := Try.sizeOf9
 v26 := Try.zeroValue9
 t28 := Try.underlying121
 a28 := Try.isAgg121
 z28 := Try.sizeOf121
 v28 := Try.zeroValue121
 i26:= by kernel_rfl }
def Try.sort76_ren : Go.Shelf.Ren := ⟨fun | 6 => 76 | 8 => 84 | 9 => 83 | 19 => 96 | 20 => 97 | 21 => 87 | 22 => 88 | 23 => 89 | 24 => 90 | 25 => 91 | 26 => 92 | 27 => 93 | 28 => 94 | 29 => 95 | 36 => 98 | 31 => 99 | 32 => 100 | 37 => 101 | 38 => 102 | 39 => 86 | 41 => 103 | n => n, fun | 27 => 118 | 29 => 9 | 3 => 3 | 32 => 144 | 26 => 118 | 0 => 0 | 44 => 36 | 46 => 27 | 4 => 4 | 36 => 148 | 35 => 147 | 41 => 153 | 5 => 5 | 9 => 9 | 53 => 157 | 57 => 161 | 63 => 163 | 64 => 164 | n => n, fun | n => n⟩
theorem Try.sort76 : Go.Proofs.SlLaysM.n6 Try.prog Try.sort76_ren := {
 mixed:= by kernel_rfl
 f6 := ⟨Try.f76.name, by decide, Try.func76.trans (congrArg some (by kernel_rfl))⟩
 f8 := Try.func84.trans (congrArg some (by kernel_rfl))
 f9 := ⟨Try.f83.name, by decide, Try.func83.trans (congrArg some (by kernel_rfl))⟩
 f19 := Try.func96.trans (congrArg some (by kernel_rfl))
 f20 := Try.func97.trans (congrArg some (by kernel_rfl))
 f21 := ⟨Try.f87.name, by decide, Try.func87.trans (congrArg some (by kernel_rfl))⟩
 f22 := ⟨Try.f88.name, by decide, Try.func88.trans (congrArg some (by kernel_rfl))⟩
 f23 := ⟨Try.f89.name, by decide, Try.func89.trans (congrArg some (by kernel_rfl))⟩
 f24 := ⟨Try.f90.name, by decide, Try.func90.trans (congrArg some (by kernel_rfl))⟩
 f25 := ⟨Try.f91.name, by decide, Try.func91.trans (congrArg some (by kernel_rfl))⟩
 f26 := ⟨Try.f92.name, by decide, Try.func92.trans (congrArg some (by kernel_rfl))⟩
 f27 := ⟨Try.f93.name, by decide, Try.func93.trans (congrArg some (by kernel_rfl))⟩
 f28 := ⟨Try.f94.name, by decide, Try.func94.trans (congrArg some (by kernel_rfl))⟩
 f29 := ⟨Try.f95.name, by decide, Try.func95.trans (congrArg some (by kernel_rfl))⟩
 f31 := Try.func99.trans (congrArg some (by kernel_rfl))
 f32 := Try.func100.trans (congrArg some (by kernel_rfl))
 f36 := ⟨Try.f98.name, by decide, Try.func98.trans (congrArg some (by kernel_rfl))⟩
 f37 := ⟨Try.f101.name, by decide, Try.func101.trans (congrArg some (by kernel_rfl))⟩
 f38 := ⟨Try.f102.name, by decide, Try.func102.trans (congrArg some (by kernel_rfl))⟩
 f39 := ⟨Try.f86.name, by decide, Try.func86.trans (congrArg some (by kernel_rfl))⟩
 f41 := ⟨Try.f103.name, by decide, Try.func103.trans (congrArg some (by kernel_rfl))⟩
 t0 := Try.underlying0
 a0 := Try.isAgg0
 z0 := Try.sizeOf0
 v0 := Try.zeroValue0
 t3 := Try.underlying3
 a3 := Try.isAgg3
 z3 := Try.sizeOf3
 v3 := Try.zeroValue3
 t4 := Try.underlying4
 a4 := Try.isAgg4
 z4 := Try.sizeOf4
 v4 := Try.zeroValue4
 t5 := Try.underlying5
 a5 := Try.isAgg5
 z5 := Try.sizeOf5
 v5 := Try.zeroValue5
 t9 := Try.underlying9
 a9 := Try.isAgg9
 z9 := Try.sizeOf9
 v9 := Try.zeroValue9
 t26 := Try.underlying118
 a26 := Try.isAgg118
 z26 := Try.sizeOf118
 v26 := Try.zeroValue118
 t27 := Try.underlying118
 a27 := Try.isAgg118
 z27 := Try.sizeOf118
 v27 := Try.zeroValue118
 t29 := Try.underlying9
 a29 := Try.isAgg9
 z29 := Try.sizeOf9
 v29 := Try.zeroValue9
 t32 := Try.underlying144
 a32 := Try.isAgg144
 z32 := Try.sizeOf144
 v32 := Try.zeroValue144
 t35 := Try.underlying147
 a35 := Try.isAgg147
 z35 := Try.sizeOf147
 v35 := Try.zeroValue147
 t36 := Try.underlying148
 a36 := Try.isAgg148
 z36 := Try.sizeOf148
 v36 := Try.zeroValue148
 t41 := Try.underlying153
 a41 := Try.isAgg153
 z41 := Try.sizeOf153
 v41 := Try.zeroValue153
 t44 := Try.underlying36
 a44 := Try.isAgg36
 z44 := Try.sizeOf36
 v44 := Try.zeroValue36
 t46 := Try.underlying27
 a46 := Try.isAgg27
 z46 := Try.sizeOf27
 v46 := Try.zeroValue27
 t53 := Try.underlying157
 a53 := Try.isAgg157
 z53 := Try.sizeOf157
 v53 := Try.zeroValue157
 t57 := Try.underlying161
 a57 := Try.isAgg161
 z57 := Try.sizeOf161
 v57 := Try.zeroValue161
 t63 := Try.underlying163
 a63 := Try.isAgg163
 z63 := Try.sizeOf163
 v63 := Try.zeroValue163
 t64 := Try.underlying164
 a64 := Try.isAgg164
 z64 := Try.sizeOf164
 v64 := Try.zeroValue164 }
end Go.Proofs

namespace Go.AX
noncomputable section
open Go.RowKit
end
end Go.AX

namespace Go.Proofs.Ytnedigoajoflaaa.M
open Go.RowKit Go.Maps Go.Sort Go.Shelf Go.Proofs Go.AX
theorem sorts54 (m : Nat) : AnyZ.SortsIn Try.prog Try.sorted54_ren Fence.wide m :=
  ⟨fun blk off cap ss W hH hblk hsz => callsIn_wide.2 (AnyM.slices_Sort_string Try.sort76 blk off cap ss W hH hblk hsz),
   fun p cap W => callsIn_wide.2 (AnyM.slices_Sort_string_none Try.sort76 p cap W)⟩
set_option maxHeartbeats 1000000 in
theorem sortedOk55 : AX.SortedOk Try.prog 54 77 9 := by
 intro Bm b nn D0 R w hBm hcell hown hmax hbytes
 exact (callsIn_wide (n := 5)).1 (AnyZ.sorted_in Try.sorted54 Fence.wide 5 trivial trivial trivial trivial rfl (by omega) (sorts54 _) (enters_of Try.func76 (by kernel_rfl) rfl) 77 #[.pointer (some ⟨Bm, 0, none⟩)] trivial (enters_of Try.func77 (by kernel_rfl) rfl) _ _ hmax hbytes _ (AnyZ.keys_gives (ρ := Try.keys55_ren) { Try.keys55 with } Fence.wide _ trivial rfl (by omega) Bm b nn D0 _ hBm hcell hown))
noncomputable def sortedK : Hook := (orHook (sortedHook 54 77) noHook)
theorem sortedK_ok : HookOk Try.prog sortedK := (orHook_ok (sortedHook_ok (by kernel_rfl) sortedOk55) (noHook_ok _))
end Go.Proofs.Ytnedigoajoflaaa.M


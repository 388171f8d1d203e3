/-
  AX: a world in which package-level variables stand still.
-/
import Derived.Test.YtllmfnedkhiomaaGreatDoorAxI
import Derived.Test.YtllmfnedkhiomaaGreatDoorAxH
import Derived.Test.YtllmfnedkhiomaaGreatDoorAxG
import Derived.Test.YtllmfnedkhiomaaGreatDoorAxF
import Derived.Lib.Overlaps
import Derived.Test.YtllmfnedkhiomaaGreatDoorProg
import Derived.KernelRfl
set_option linter.unusedSimpArgs false
set_option linter.unusedVariables false
set_option linter.unusedSectionVars false
open Nat (reduceLT reduceLeDiff reduceEqDiff reduceAdd reduceMul reduceSub)
namespace Go.AX
noncomputable section
def absHg (w : World) (k : Nat) : H := { absH w with g := k }
theorem absHg_rel (w : World) {k : Nat} (hk : k ≤ w.heap.size) : HR ⟨w.heap.size, fun _ => none⟩ (absPhi w.heap.size) (absHg w k) w :=
 have a := absH_rel w
 ⟨a.obj, a.inj, a.lt, a.res, fun g hg => by
  have hg : g < k := hg
  unfold absPhi; rw [if_pos (by omega)]⟩
theorem absHg_cell {w : World} {k b o : Nat} {v : Value} {a : AV} (hc : w.cell? ⟨b, o, none⟩ = some v) (ha : absV w.heap.size v = some a) : cellAt (absHg w k) b o = some a := absH_cell hc ha
end
end Go.AX

namespace Go.AX
noncomputable section
open Go.RowKit
section
variable {P : Program} {tm : T AV} {h : H}
def oH (x : Option H) : R :=
 match x with
 | some h => .skip h
 | none => .fail
theorem oH_some (h : H) : oH (some h) = .skip h := id rfl
theorem ex_lookup (t : TypeId) (x i : Operand) (ok : Bool) : execA P tm h (.lookup t x i ok) = ob (evalA tm x) fun v => ob (evalA tm i) fun j => ob (lookupA P t v j ok h) fun v => .val v h := by
 simp only [execA]
 cases evalA tm x with
 | none => cases evalA tm i <;> rfl
 | some v => cases evalA tm i <;> rfl
theorem ex_mapUpdate (t : TypeId) (m k x : Operand) : execA P tm h (.mapUpdate t m k x) = ob (evalA tm m) fun m => ob (evalA tm k) fun k => ob (evalA tm x) fun x => oH (updateA P t m k x h) := by
 simp only [execA]
 cases evalA tm m with
 | none => cases evalA tm k <;> cases evalA tm x <;> rfl
 | some v => cases evalA tm k with
  | none => cases evalA tm x <;> rfl
  | some w => cases evalA tm x <;> rfl
end
section
variable {κ : Type} [DecidableEq κ]
def posK (k : κ) : List (κ × AV) → Nat → Option (Nat × AV)
 | [], _ => none
 | (a, v) :: L, i => if k = a then some (i, v) else posK k L (i + 1)
def mapGet (k : κ) (L : List (κ × AV)) : Option AV := (L.find? fun p => decide (k = p.1)).map (·.2)
def mapPut (k : κ) (v : AV) : List (κ × AV) → List (κ × AV)
 | [] => [(k, v)]
 | (a, w) :: L => if k = a then (a, v) :: L else (a, w) :: mapPut k v L
def mapDel (k : κ) : List (κ × AV) → List (κ × AV)
 | [] => []
 | (a, w) :: L => if k = a then L else (a, w) :: mapDel k L
theorem pos_get (k : κ) : ∀ (L : List (κ × AV)) (i : Nat), (posK k L i).map (·.2) = mapGet k L
 | [], _ => rfl
 | (a, v) :: L, i => by
  unfold posK mapGet
  rw [List.find?_cons]
  by_cases e : k = a
  ·simp [e]
  ·simp only [e, if_false, decide_false]
   exact pos_get k L (i + 1)
theorem pos_le (k : κ) : ∀ {L : List (κ × AV)} {i j : Nat} {v : AV}, posK k L i = some (j, v) → i ≤ j
 | [], _, _, _, h => by cases h
 | (a, w) :: L, i, j, v, h => by
  unfold posK at h
  split at h
  ·cases h; exact Nat.le_refl _
  ·exact Nat.le_trans (Nat.le_succ _) (pos_le k h)
structure KeyT (P : Program) (kt : TypeId) (enc : κ → AV) : Prop where
 kv : ∀ k, keyV P 4 kt (enc k) = true
 eq : ∀ a b, keyEq P kt (enc a) (enc b) = some (decide (a = b))
 sm : ∀ a, sameV (enc a) (enc a) = true
def entP (e : AV × AV × Nat) : AV × AV := (e.1, e.2.1)
def encP (enc : κ → AV) (p : κ × AV) : AV × AV := (enc p.1, p.2)
structure MapK (enc : κ → AV) (h : H) (r : Nat) (L : List (κ × AV)) : Prop where
 has : ∃ es clock, h.t.get r = some (.map es clock) ∧ es.map entP = L.map (encP enc) ∧ (es.map (·.2.2)).Nodup ∧ ∀ e, e ∈ es → e.2.2 < clock
 lt : r < h.nx
variable {P : Program} {kt : TypeId} {enc : κ → AV}
theorem find_pos (hk : KeyT P kt enc) (k : κ) : ∀ {es : List (AV × AV × Nat)} {L : List (κ × AV)} (i : Nat), es.map entP = L.map (encP enc) → findA P kt (enc k) es i = some (posK k L i)
 | [], [], i, _ => rfl
 | [], p :: L, i, h => by simp at h
 | e :: es, [], i, h => by simp at h
 | e :: es, (a, v) :: L, i, h => by
  rw [List.map_cons, List.map_cons, List.cons.injEq] at h
  have e1 : e.1 = enc a := congrArg Prod.fst h.1
  have e2 : e.2.1 = v := congrArg Prod.snd h.1
  unfold findA posK
  rw [e1, hk.eq k a]
  by_cases q : k = a
  ·simp [q, e2]
  ·simp only [q, decide_false, if_false]
   exact find_pos hk k (i + 1) h.2
theorem set_put (k : κ) (v : AV) : ∀ {es : List (AV × AV × Nat)} {L : List (κ × AV)} {i j : Nat} {w : AV}, es.map entP = L.map (encP enc) → posK k L i = some (j, w) → (setVal v es (j - i)).map entP = (mapPut k v L).map (encP enc) ∧ (setVal v es (j - i)).map (·.2.2) = es.map (·.2.2)
 | [], [], i, j, w, _, hp => by cases hp
 | [], p :: L, i, j, w, h, _ => by simp at h
 | e :: es, [], i, j, w, h, _ => by simp at h
 | e :: es, (a, u) :: L, i, j, w, h, hp => by
  rw [List.map_cons, List.map_cons, List.cons.injEq] at h
  have e1 : e.1 = enc a := congrArg Prod.fst h.1
  unfold posK at hp
  unfold mapPut
  by_cases q : k = a
  ·rw [if_pos q] at hp
   cases hp
   rw [if_pos q, Nat.sub_self]
   refine ⟨?_, rfl⟩
   unfold setVal
   rw [List.map_cons, List.map_cons, h.2]
   unfold entP encP
   rw [e1]
  ·rw [if_neg q] at hp
   rw [if_neg q]
   have hle := pos_le k hp
   obtain ⟨j', rfl⟩ : ∃ j', j = i + 1 + j' := ⟨j - (i + 1), by omega⟩
   have ih := set_put k v h.2 hp
   rw [show i + 1 + j' - (i + 1) = j' by omega] at ih
   rw [show i + 1 + j' - i = j' + 1 by omega]
   unfold setVal
   rw [List.map_cons, List.map_cons, List.map_cons, List.map_cons, ih.1, ih.2, h.1]
   exact ⟨rfl, rfl⟩
theorem put_new (k : κ) (v : AV) : ∀ {L : List (κ × AV)} {i : Nat}, posK k L i = none → mapPut k v L = L ++ [(k, v)]
 | [], _, _ => rfl
 | (a, w) :: L, i, h => by
  unfold posK at h
  unfold mapPut
  by_cases q : k = a
  ·rw [if_pos q] at h; cases h
  ·rw [if_neg q] at h
   rw [if_neg q, put_new k v h]; rfl
theorem same_at (hk : KeyT P kt enc) (k : κ) : ∀ {es : List (AV × AV × Nat)} {L : List (κ × AV)} {i j : Nat} {w : AV}, es.map entP = L.map (encP enc) → posK k L i = some (j, w) → sameAt (enc k) es (j - i) = true ∧ ∃ e, es[j - i]? = some e ∧ e.1 = enc k ∧ e.2.1 = w
 | [], [], i, j, w, _, hp => by cases hp
 | [], p :: L, i, j, w, h, _ => by simp at h
 | e :: es, [], i, j, w, h, _ => by simp at h
 | e :: es, (a, u) :: L, i, j, w, h, hp => by
  rw [List.map_cons, List.map_cons, List.cons.injEq] at h
  have e1 : e.1 = enc a := congrArg Prod.fst h.1
  have e2 : e.2.1 = u := congrArg Prod.snd h.1
  unfold posK at hp
  by_cases q : k = a
  ·rw [if_pos q] at hp
   cases hp
   rw [Nat.sub_self]
   unfold sameAt
   simp only [List.getElem?_cons_zero]
   rw [e1, ← q]
   exact ⟨hk.sm k, e, rfl, by rw [e1, q], e2⟩
  ·rw [if_neg q] at hp
   have hle := pos_le k hp
   have ih := same_at hk k h.2 hp
   rw [show j - i = (j - (i + 1)) + 1 by omega]
   unfold sameAt at ih ⊢
   rw [List.getElem?_cons_succ]
   exact ih
theorem del_at (k : κ) : ∀ {es : List (AV × AV × Nat)} {L : List (κ × AV)} {i j : Nat} {w : AV}, es.map entP = L.map (encP enc) → posK k L i = some (j, w) → (es.eraseIdx (j - i)).map entP = (mapDel k L).map (encP enc)
 | [], [], i, j, w, _, hp => by cases hp
 | [], p :: L, i, j, w, h, _ => by simp at h
 | e :: es, [], i, j, w, h, _ => by simp at h
 | e :: es, (a, u) :: L, i, j, w, h, hp => by
  rw [List.map_cons, List.map_cons, List.cons.injEq] at h
  unfold posK at hp
  unfold mapDel
  by_cases q : k = a
  ·rw [if_pos q] at hp
   cases hp
   rw [if_pos q, Nat.sub_self]
   exact h.2
  ·rw [if_neg q] at hp
   rw [if_neg q]
   have hle := pos_le k hp
   have ih := del_at k h.2 hp
   rw [show j - i = (j - (i + 1)) + 1 by omega, List.eraseIdx_cons_succ, List.map_cons, List.map_cons, ih, h.1]
theorem del_no (k : κ) : ∀ {L : List (κ × AV)} {i : Nat}, posK k L i = none → mapDel k L = L
 | [], _, _ => rfl
 | (a, w) :: L, i, h => by
  unfold posK at h
  unfold mapDel
  by_cases q : k = a
  ·rw [if_pos q] at h; cases h
  ·rw [if_neg q] at h
   rw [if_neg q, del_no k h]
theorem MapK.get {h h' : H} {r : Nat} {L : List (κ × AV)} (hm : MapK enc h r L) (hx : h.nx ≤ h'.nx) (e : h'.t.get r = h.t.get r) : MapK enc h' r L :=
 ⟨by obtain ⟨es, c, h1, h2⟩ := hm.has; exact ⟨es, c, by rw [e]; exact h1, h2⟩, Nat.lt_of_lt_of_le hm.lt hx⟩
theorem MapK.keep {h h' : H} {r : Nat} {L : List (κ × AV)} (hm : MapK enc h r L) {S : List Nat} (o : Only h h' S) (hr : r ∉ S) : MapK enc h' r L := hm.get o.1 (o.2 r hm.lt hr)
variable {t elem : TypeId} {h : H} {r : Nat} {L : List (κ × AV)}
theorem lookup_k (ht : P.underlying t = some (.map kt elem)) (hk : KeyT P kt enc) {z : AV} (hz : zeroA P elem = some z) (hm : MapK enc h r L) (k : κ) (ok : Bool) :
  lookupA P t (.map r) (enc k) ok h = some (match ok with | true => .tuple [(mapGet k L).getD z, .bool (mapGet k L).isSome] | false => (mapGet k L).getD z) := by
 obtain ⟨es, c, h1, h2, h3, h4⟩ := hm.has
 unfold lookupA
 simp only [ht, hk.kv k, h1, find_pos hk k 0 h2, hz]
 rw [← pos_get k L 0]
 cases posK k L 0 with
 | none => cases ok <;> rfl
 | some x => cases ok <;> rfl
theorem len_k (ht : P.underlying t = some (.map kt elem)) (hm : MapK enc h r L) (ts : List TypeId) (xs : List AV) : builtinA P .len (t :: ts) (.map r :: xs) h = .val (.int .i64 (.ofNat L.length)) h := by
 obtain ⟨es, c, h1, h2, h3, h4⟩ := hm.has
 have hl : es.length = L.length:= by have := congrArg List.length h2; simpa using this
 simp only [builtinA, lenA, ht, h1, hl]
theorem update_k (ht : P.underlying t = some (.map kt elem)) (hk : KeyT P kt enc) (hm : MapK enc h r L) (k : κ) (v : AV) :
  ∃ h', updateA P t (.map r) (enc k) v h = some h' ∧ MapK enc h' r (mapPut k v L) ∧ h'.nx = h.nx ∧ Only h h' [r] ∧ h'.g = h.g := by
 obtain ⟨es, c, h1, h2, h3, h4⟩ := hm.has
 have hlt := hm.lt
 cases hp : posK k L 0 with
 | none =>
  have ho : Only h { h with t := h.t.set r (some (.map (es ++ [(enc k, v, c)]) (c + 1))) } [r] := ⟨Nat.le_refl _, fun b hb hn => by
   rw [T.get_set, if_neg (fun e => hn (by rw [e]; simp))]⟩
  refine ⟨{ h with t := h.t.set r (some (.map (es ++ [(enc k, v, c)]) (c + 1))) }, by unfold updateA; simp only [ht, hk.kv k, h1, find_pos hk k 0 h2, hp], ⟨⟨es ++ [(enc k, v, c)], c + 1, by rw [T.get_set, if_pos rfl], ?_, ?_, fun e he => ?_⟩, hlt⟩, rfl, ho, rfl⟩
  ·rw [put_new k v hp, List.map_append, List.map_append, h2]; rfl
  ·rw [List.map_append, List.nodup_append]
   refine ⟨h3, by simp, fun a ha b hb => ?_⟩
   simp only [List.map_cons, List.map_nil, List.mem_singleton] at hb
   obtain ⟨e, he, rfl⟩ := List.mem_map.1 ha
   have := h4 e he
   omega
  ·rcases List.mem_append.1 he with q | q
   ·have := h4 e q; omega
   ·rw [List.mem_singleton] at q; subst q; exact Nat.lt_succ_self _
 | some x =>
  obtain ⟨j, w⟩ := x
  have hsa := (same_at hk k h2 hp).1
  obtain ⟨s1, s2⟩ := set_put k v h2 hp
  rw [Nat.sub_zero] at hsa s1 s2
  refine ⟨{ h with t := h.t.set r (some (.map (setVal v es j) c)) }, by unfold updateA; simp only [ht, hk.kv k, h1, find_pos hk k 0 h2, hp, hsa], ⟨⟨setVal v es j, c, by rw [T.get_set, if_pos rfl], s1, by rw [s2]; exact h3, fun e he => ?_⟩, hlt⟩, rfl, ⟨Nat.le_refl _, fun b hb hn => by
   rw [T.get_set, if_neg (fun e => hn (by rw [e]; simp))]⟩, rfl⟩
  have : e.2.2 ∈ es.map (·.2.2):= by rw [← s2]; exact List.mem_map_of_mem he
  obtain ⟨e', he', q⟩ := List.mem_map.1 this
  rw [← q]; exact h4 e' he'
theorem delete_k (ht : P.underlying t = some (.map kt elem)) (hk : KeyT P kt enc) (hm : MapK enc h r L) (k : κ) :
  ∃ h', deleteA P t (.map r) (enc k) h = some h' ∧ MapK enc h' r (mapDel k L) ∧ h'.nx = h.nx ∧ Only h h' [r] ∧ h'.g = h.g := by
 obtain ⟨es, c, h1, h2, h3, h4⟩ := hm.has
 have hlt := hm.lt
 cases hp : posK k L 0 with
 | none =>
  refine ⟨h, by unfold deleteA; simp only [ht, hk.kv k, h1, find_pos hk k 0 h2, hp], ?_, rfl, ⟨Nat.le_refl _, fun _ _ _ => rfl⟩, rfl⟩
  rw [del_no k hp]; exact hm
 | some x =>
  obtain ⟨j, w⟩ := x
  have s1 := del_at k h2 hp
  rw [Nat.sub_zero] at s1
  refine ⟨{ h with t := h.t.set r (some (.map (es.eraseIdx j) c)) }, by unfold deleteA; simp only [ht, hk.kv k, h1, find_pos hk k 0 h2, hp], ⟨⟨es.eraseIdx j, c, by rw [T.get_set, if_pos rfl], s1, ?_, fun e he => h4 e (List.mem_of_mem_eraseIdx he)⟩, hlt⟩, rfl, ⟨Nat.le_refl _, fun b hb hn => by
   rw [T.get_set, if_neg (fun e => hn (by rw [e]; simp))]⟩, rfl⟩
  exact h3.sublist ((List.eraseIdx_sublist es j).map _)
theorem bi_delete_k (ht : P.underlying t = some (.map kt elem)) (hk : KeyT P kt enc) (hm : MapK enc h r L) (k : κ) (ts : List TypeId) (xs : List AV) :
  ∃ h', builtinA P .delete (t :: ts) (.map r :: enc k :: xs) h = .val und h' ∧ MapK enc h' r (mapDel k L) ∧ h'.nx = h.nx ∧ Only h h' [r] ∧ h'.g = h.g := by
 obtain ⟨h', e, q⟩ := delete_k ht hk hm k
 exact ⟨h', by simp only [builtinA, e], q⟩
theorem newMap (h : H) (enc : κ → AV) : MapK enc (h.alloc (.map [] 0)) h.nx [] := ⟨⟨[], 0, by unfold H.alloc; rw [T.get_set, if_pos rfl], rfl, List.nodup_nil, fun e he => by cases he⟩, Nat.lt_succ_self _⟩
end
theorem keyT_int {P : Program} {kt : TypeId} {kd : IntKind} (hu : P.underlying kt = some (.int kd)) : KeyT P kt (fun n : Nat => .int kd (.ofNat n)) where
 kv k:= by unfold keyV; simp only [hu]
 eq a b := by
  unfold keyEq eqA
  simp only [hu, eqB_self, eq_nat]
 sm a := by
  unfold sameV same1
  simp only [eqB_self, Bool.true_and, eq_nat, decide_true]
theorem keyT_str {P : Program} {kt : TypeId} (hu : P.underlying kt = some .string) : KeyT P kt (fun s : List Nat => .str s) where
 kv k:= by unfold keyV; simp only [hu]
 eq a b := by
  unfold keyEq eqA
  simp only [hu]
  congr 1
  rw [Bool.eq_iff_iff, decide_eq_true_iff]
  exact listEqB_iff a b
 sm a := by
  unfold sameV same1
  exact (listEqB_iff a a).2 rfl
end
end Go.AX

namespace Go.AX
noncomputable section
open Go.RowKit
section
variable {P : Program}
end
end
end Go.AX

namespace Go.AX
noncomputable section
open Go.RowKit
end
end Go.AX

namespace Go.AX
noncomputable section
open Go.RowKit
section
variable {P : Program} {h : H} {tm : T AV}
theorem ex_sl_l (t : TypeId) (x a : Operand) : execA P tm h (.slice t x (some a) none none) = ob (evalA tm x) fun v => ob (evalA tm a) fun l => ob (sliceA P t v (some l) none none) fun v => .val v h := by
 simp only [execA, evalO]
 cases evalA tm x with
 | none => cases evalA tm a <;> rfl
 | some v =>
  cases evalA tm a with
  | none => rfl
  | some l => simp only [ob]; cases sliceA P t v (some l) none none <;> rfl
theorem ex_sl_h (t : TypeId) (x a : Operand) : execA P tm h (.slice t x none (some a) none) = ob (evalA tm x) fun v => ob (evalA tm a) fun l => ob (sliceA P t v none (some l) none) fun v => .val v h := by
 simp only [execA, evalO]
 cases evalA tm x with
 | none => cases evalA tm a <;> rfl
 | some v =>
  cases evalA tm a with
  | none => rfl
  | some l => simp only [ob]; cases sliceA P t v none (some l) none <;> rfl
def RowB (h : H) (b m size ty : Nat) (cs : List AV) : Prop := b < h.nx ∧ ∃ t, h.t.get b = some (.cells m t ⟨size, ty⟩ false) ∧ ∀ j, j < cs.length → t.get j = cs[j]?
theorem RowB.row {b m size ty : Nat} {cs : List AV} (hr : RowB h b m size ty cs) {o n : Nat} (hn : o + n ≤ cs.length) (h0 : 0 < n) : h.row b o n = some ((cs.drop o).take n) := by
 obtain ⟨-, t, hg, ht⟩ := hr
 have hl : ((cs.drop o).take n).length = n:= by rw [List.length_take, List.length_drop]; omega
 have hne : (cs.drop o).take n ≠ [] := fun e => by rw [e] at hl; simp at hl; omega
 have := row_ok (h := h) (b := b) (o := o) (cs := (cs.drop o).take n) (fun i hi => by
  unfold cellAt; rw [hg]
  simp only
  rw [ht _ (by omega), List.getElem?_take, if_pos (by omega), List.getElem?_drop]) hne
 rwa [hl] at this
theorem grown_none {k : EK} {l : List AV} (b : Nat) : (h.grown none k l).t.get b = if b = h.nx then some (.cells l.length (T.ofRow l) k false) else h.t.get b := by
 by_cases q : b = h.nx
 ·subst q; rw [if_pos rfl, grownL_new]
 ·rw [if_neg q]; unfold H.grown; simp only [T.get_set]; rw [if_neg q]
theorem grown_only {k : EK} {l : List AV} : Only h (h.grown none k l) [] := ⟨by rw [grownL_nx]; omega, fun b hb _ => by rw [grown_none, if_neg (by omega)]⟩
end
end
end Go.AX

namespace Go.Proofs.YtllmfnedkhiomaaGreatDoor.S
open Go Go.AX
noncomputable section
set_option maxRecDepth 100000
noncomputable abbrev P : Program := Tryz.prog
theorem cf5 (first cap args : List AV) (h : H) : callV P (.func 5 first cap) args h = .enter 5 (first ++ args ++ cap) h := callV_func 5 (by kernel_rfl) first cap args
theorem bc55_0 (p0_0 : AV) : buildC P 55 [(0, [p0_0])] = some (.agg [p0_0]):= by kernel_rfl
theorem cf7 (first cap args : List AV) (h : H) : callV P (.func 7 first cap) args h = .enter 7 (first ++ args ++ cap) h := callV_func 7 (by kernel_rfl) first cap args
theorem u23 : P.underlying 23 = some (.pointer 55):= by kernel_rfl
theorem eq23 (h : H) (x y : Operand) (b o : Nat) : binR P h .eql 23 x y (.ptr b o) .nilptr = .val (.bool false) h := b_eqlPn u23 b o
theorem ne23 (h : H) (x y : Operand) (b o : Nat) : binR P h .neq 23 x y (.ptr b o) .nilptr = .val (.bool true) h := b_neqPn u23 b o
theorem en23 (h : H) (x y : Operand) : binR P h .eql 23 x y .nilptr .nilptr = .val (.bool true) h := b_eqlNn u23
theorem nn23 (h : H) (x y : Operand) : binR P h .neq 23 x y .nilptr .nilptr = .val (.bool false) h := b_neqNn u23
theorem fa55_0 (b o : Nat) : fieldAddrA P 55 (.ptr b o) 0 = some (.ptr b o):= by kernel_rfl
theorem ok53 : okT P 53 = true:= by kernel_rfl
theorem ld53 (h : H) (b o : Nat) : loadV P h 53 b o = cellAt h b o := loadV_one (by kernel_rfl) h b o
theorem z65 : zeroA P 65 = some (.agg [(.int .u64 (.ofNat 0)), (.str [])]):= by kernel_rfl
theorem ok65 : okT P 65 = true:= by kernel_rfl
theorem st65 (h : H) (l : List AV) (hl : l.length = 2) (b o : Nat) : storeV P h 65 b o (.agg l) = h.put b o l := storeV_agg (by kernel_rfl) hl b o
theorem cf21 (first cap args : List AV) (h : H) : callV P (.func 21 first cap) args h = .enter 21 (first ++ args ++ cap) h := callV_func 21 (by kernel_rfl) first cap args
theorem fa65_0 (b o : Nat) : fieldAddrA P 65 (.ptr b o) 0 = some (.ptr b o):= by kernel_rfl
theorem ok26 : okT P 26 = true:= by kernel_rfl
theorem ld26 (h : H) (b o : Nat) : loadV P h 26 b o = cellAt h b o := loadV_one (by kernel_rfl) h b o
theorem fa65_1 (b o : Nat) : fieldAddrA P 65 (.ptr b o) 1 = some (.ptr b (o + 1)):= by kernel_rfl
theorem ok9 : okT P 9 = true:= by kernel_rfl
theorem ld9 (h : H) (b o : Nat) : loadV P h 9 b o = cellAt h b o := loadV_one (by kernel_rfl) h b o
theorem cf8 (first cap args : List AV) (h : H) : callV P (.func 8 first cap) args h = .enter 8 (first ++ args ++ cap) h := callV_func 8 (by kernel_rfl) first cap args
theorem u9 : P.underlying 9 = some (.string):= by kernel_rfl
theorem ln9 (h : H) (s : List Nat) (ts : List TypeId) (xs : List AV) : builtinA P .len (9 :: ts) (.str s :: xs) h = .val (.int .i64 (.ofNat s.length)) h := bi_len_str u9 s ts xs
theorem z25 : zeroA P 25 = some .nilmap:= by kernel_rfl
theorem ok25 : okT P 25 = true:= by kernel_rfl
theorem st25 (h : H) (v : AV) (hv : v.cells = [v]) (b o : Nat) : storeV P h 25 b o v = h.put b o [v] := storeV_one (by kernel_rfl) hv b o
theorem ld65 (h : H) (b o : Nat) : loadV P h 65 b o = aggO (seqO [cellAt h b o, cellAt h b (o + 1)]) := ld_agg (k := 1) (by kernel_rfl) (by kernel_rfl) b o
theorem cf22 (first cap args : List AV) (h : H) : callV P (.func 22 first cap) args h = .enter 22 (first ++ args ++ cap) h := callV_func 22 (by kernel_rfl) first cap args
theorem ld25 (h : H) (b o : Nat) : loadV P h 25 b o = cellAt h b o := loadV_one (by kernel_rfl) h b o
theorem bc65_0_1 (p0_0 p1_0 : AV) : buildC P 65 [(0, [p0_0]), (1, [p1_0])] = some (.agg [p0_0, p1_0]):= by kernel_rfl
theorem cf15 (first cap args : List AV) (h : H) : callV P (.func 15 first cap) args h = .enter 15 (first ++ args ++ cap) h := callV_func 15 (by kernel_rfl) first cap args
theorem cf10 (first cap args : List AV) (h : H) : callV P (.func 10 first cap) args h = .enter 10 (first ++ args ++ cap) h := callV_func 10 (by kernel_rfl) first cap args
theorem u3 : P.underlying 3 = some (.int .i64):= by kernel_rfl
theorem cf38 (first cap args : List AV) (h : H) : callV P (.func 38 first cap) args h = .enter 38 (first ++ args ++ cap) h := callV_func 38 (by kernel_rfl) first cap args
theorem cf40 (first cap args : List AV) (h : H) : callV P (.func 40 first cap) args h = .enter 40 (first ++ args ++ cap) h := callV_func 40 (by kernel_rfl) first cap args
theorem cf39 (first cap args : List AV) (h : H) : callV P (.func 39 first cap) args h = .enter 39 (first ++ args ++ cap) h := callV_func 39 (by kernel_rfl) first cap args
theorem cf41 (first cap args : List AV) (h : H) : callV P (.func 41 first cap) args h = .enter 41 (first ++ args ++ cap) h := callV_func 41 (by kernel_rfl) first cap args
theorem cv3_26 (j : IntKind) (n : Int) (h : H) : convR P 3 26 (.int j n) h = .val (.int .u64 (wrapF .u64 n)) h := conv_int (u := .int .i64) (by kernel_rfl) (by kernel_rfl) j n
theorem bs131_1_0 (p0_0 : AV) : buildSC P 131 1 [(0, [p0_0])] = some (26, [p0_0]):= by kernel_rfl
theorem cf60 (first cap args : List AV) (h : H) : callV P (.func 60 first cap) args h = .enter 60 (first ++ args ++ cap) h := callV_func 60 (by kernel_rfl) first cap args
theorem cf61 (first cap args : List AV) (h : H) : callV P (.func 61 first cap) args h = .enter 61 (first ++ args ++ cap) h := callV_func 61 (by kernel_rfl) first cap args
theorem cf62 (first cap args : List AV) (h : H) : callV P (.func 62 first cap) args h = .enter 62 (first ++ args ++ cap) h := callV_func 62 (by kernel_rfl) first cap args
theorem u131 : P.underlying 131 = some (.slice 26):= by kernel_rfl
theorem ln131 (h : H) (b o n : Nat) (c : Cap) (ts : List TypeId) (xs : List AV) : builtinA P .len (131 :: ts) (.slice b o n c :: xs) h = .val (.int .i64 (.ofNat n)) h := bi_len_slice u131 b o n c ts xs
theorem lm131 (h : H) (ts : List TypeId) (xs : List AV) : builtinA P .len (131 :: ts) (.nilslice :: xs) h = .val (.int .i64 (.ofNat 0)) h := bi_len_nil u131 ts xs
theorem ia131 (b o len : Nat) (cap : Cap) (kd : IntKind) (i : Nat) : indexAddrA P 131 (.slice b o len cap) (.int kd (.ofNat i)) = if i < len then some (.ptr b (o + i * 1)) else none := indexAddr_slice (e := 26) (by kernel_rfl) (by kernel_rfl) (by kernel_rfl) b o len cap kd i
theorem cv26_5 (j : IntKind) (n : Int) (h : H) : convR P 26 5 (.int j n) h = .val (.int .u8 (wrapF .u8 n)) h := conv_int (u := .int .u64) (by kernel_rfl) (by kernel_rfl) j n
theorem bs37_1_0 (p0_0 : AV) : buildSC P 37 1 [(0, [p0_0])] = some (5, [p0_0]):= by kernel_rfl
theorem z132 : zeroA P 132 = some (.agg [(.int .u8 (.ofNat 0)), (.int .u8 (.ofNat 0)), (.int .u8 (.ofNat 0)), (.int .u8 (.ofNat 0)), (.int .u8 (.ofNat 0)), (.int .u8 (.ofNat 0)), (.int .u8 (.ofNat 0)), (.int .u8 (.ofNat 0)), (.int .u8 (.ofNat 0))]):= by kernel_rfl
theorem ok5 : okT P 5 = true:= by kernel_rfl
theorem st5 (h : H) (v : AV) (hv : v.cells = [v]) (b o : Nat) : storeV P h 5 b o v = h.put b o [v] := storeV_one (by kernel_rfl) hv b o
theorem cv3_5 (j : IntKind) (n : Int) (h : H) : convR P 3 5 (.int j n) h = .val (.int .u8 (wrapF .u8 n)) h := conv_int (u := .int .i64) (by kernel_rfl) (by kernel_rfl) j n
theorem cf84 (first cap args : List AV) (h : H) : callV P (.func 84 first cap) args h = .enter 84 (first ++ args ++ cap) h := callV_func 84 (by kernel_rfl) first cap args
theorem cv3_98 (j : IntKind) (n : Int) (h : H) : convR P 3 98 (.int j n) h = .val (.int .u64 (wrapF .u64 n)) h := conv_int (u := .int .i64) (by kernel_rfl) (by kernel_rfl) j n
theorem cf85 (first cap args : List AV) (h : H) : callV P (.func 85 first cap) args h = .enter 85 (first ++ args ++ cap) h := callV_func 85 (by kernel_rfl) first cap args
theorem cv98_3 (j : IntKind) (n : Int) (h : H) : convR P 98 3 (.int j n) h = .val (.int .i64 (wrapF .i64 n)) h := conv_int (u := .int .u64) (by kernel_rfl) (by kernel_rfl) j n
theorem u5 : P.underlying 5 = some (.int .u8):= by kernel_rfl
theorem cf86 (first cap args : List AV) (h : H) : callV P (.func 86 first cap) args h = .enter 86 (first ++ args ++ cap) h := callV_func 86 (by kernel_rfl) first cap args
theorem z137 : zeroA P 137 = some (.agg [.nilptr, .nilslice]):= by kernel_rfl
theorem cf87 (first cap args : List AV) (h : H) : callV P (.func 87 first cap) args h = .enter 87 (first ++ args ++ cap) h := callV_func 87 (by kernel_rfl) first cap args
theorem cf88 (first cap args : List AV) (h : H) : callV P (.func 88 first cap) args h = .enter 88 (first ++ args ++ cap) h := callV_func 88 (by kernel_rfl) first cap args
theorem cf89 (first cap args : List AV) (h : H) : callV P (.func 89 first cap) args h = .enter 89 (first ++ args ++ cap) h := callV_func 89 (by kernel_rfl) first cap args
theorem cf90 (first cap args : List AV) (h : H) : callV P (.func 90 first cap) args h = .enter 90 (first ++ args ++ cap) h := callV_func 90 (by kernel_rfl) first cap args
theorem cv26_3 (j : IntKind) (n : Int) (h : H) : convR P 26 3 (.int j n) h = .val (.int .i64 (wrapF .i64 n)) h := conv_int (u := .int .u64) (by kernel_rfl) (by kernel_rfl) j n
theorem cf103 (first cap args : List AV) (h : H) : callV P (.func 103 first cap) args h = .enter 103 (first ++ args ++ cap) h := callV_func 103 (by kernel_rfl) first cap args
theorem z152 : zeroA P 152 = some (.agg [(.int .u8 (.ofNat 0)), (.int .u8 (.ofNat 0)), (.int .u8 (.ofNat 0)), (.int .u8 (.ofNat 0)), (.int .u8 (.ofNat 0)), (.int .u8 (.ofNat 0)), (.int .u8 (.ofNat 0)), (.int .u8 (.ofNat 0)), (.int .u8 (.ofNat 0)), (.int .u8 (.ofNat 0)), (.int .u8 (.ofNat 0)), (.int .u8 (.ofNat 0)), (.int .u8 (.ofNat 0)), (.int .u8 (.ofNat 0)), (.int .u8 (.ofNat 0)), (.int .u8 (.ofNat 0)), (.int .u8 (.ofNat 0)), (.int .u8 (.ofNat 0)), (.int .u8 (.ofNat 0)), (.int .u8 (.ofNat 0)), (.int .u8 (.ofNat 0)), (.int .u8 (.ofNat 0)), (.int .u8 (.ofNat 0)), (.int .u8 (.ofNat 0))]):= by kernel_rfl
theorem cf104 (first cap args : List AV) (h : H) : callV P (.func 104 first cap) args h = .enter 104 (first ++ args ++ cap) h := callV_func 104 (by kernel_rfl) first cap args
theorem cf105 (first cap args : List AV) (h : H) : callV P (.func 105 first cap) args h = .enter 105 (first ++ args ++ cap) h := callV_func 105 (by kernel_rfl) first cap args
theorem cf106 (first cap args : List AV) (h : H) : callV P (.func 106 first cap) args h = .enter 106 (first ++ args ++ cap) h := callV_func 106 (by kernel_rfl) first cap args
theorem cv98_120 (j : IntKind) (n : Int) (h : H) : convR P 98 120 (.int j n) h = .val (.int .u32 (wrapF .u32 n)) h := conv_int (u := .int .u64) (by kernel_rfl) (by kernel_rfl) j n
theorem cf107 (first cap args : List AV) (h : H) : callV P (.func 107 first cap) args h = .enter 107 (first ++ args ++ cap) h := callV_func 107 (by kernel_rfl) first cap args
theorem cv120_98 (j : IntKind) (n : Int) (h : H) : convR P 120 98 (.int j n) h = .val (.int .u64 (wrapF .u64 n)) h := conv_int (u := .int .u32) (by kernel_rfl) (by kernel_rfl) j n
theorem cf108 (first cap args : List AV) (h : H) : callV P (.func 108 first cap) args h = .enter 108 (first ++ args ++ cap) h := callV_func 108 (by kernel_rfl) first cap args
theorem cf109 (first cap args : List AV) (h : H) : callV P (.func 109 first cap) args h = .enter 109 (first ++ args ++ cap) h := callV_func 109 (by kernel_rfl) first cap args
theorem z177 : zeroA P 177 = some (.agg [(.int .u8 (.ofNat 0)), (.int .u8 (.ofNat 0)), (.int .u8 (.ofNat 0)), (.int .u8 (.ofNat 0)), (.int .u8 (.ofNat 0)), (.int .u8 (.ofNat 0)), (.int .u8 (.ofNat 0)), (.int .u8 (.ofNat 0)), (.int .u8 (.ofNat 0)), (.int .u8 (.ofNat 0)), (.int .u8 (.ofNat 0)), (.int .u8 (.ofNat 0)), (.int .u8 (.ofNat 0)), (.int .u8 (.ofNat 0)), (.int .u8 (.ofNat 0)), (.int .u8 (.ofNat 0)), (.int .u8 (.ofNat 0)), (.int .u8 (.ofNat 0)), (.int .u8 (.ofNat 0)), (.int .u8 (.ofNat 0)), (.int .u8 (.ofNat 0)), (.int .u8 (.ofNat 0)), (.int .u8 (.ofNat 0)), (.int .u8 (.ofNat 0)), (.int .u8 (.ofNat 0)), (.int .u8 (.ofNat 0)), (.int .u8 (.ofNat 0)), (.int .u8 (.ofNat 0)), (.int .u8 (.ofNat 0)), (.int .u8 (.ofNat 0)), (.int .u8 (.ofNat 0)), (.int .u8 (.ofNat 0)), (.int .u8 (.ofNat 0)), (.int .u8 (.ofNat 0)), (.int .u8 (.ofNat 0)), (.int .u8 (.ofNat 0)), (.int .u8 (.ofNat 0)), (.int .u8 (.ofNat 0)), (.int .u8 (.ofNat 0)), (.int .u8 (.ofNat 0)), (.int .u8 (.ofNat 0)), (.int .u8 (.ofNat 0)), (.int .u8 (.ofNat 0)), (.int .u8 (.ofNat 0)), (.int .u8 (.ofNat 0)), (.int .u8 (.ofNat 0)), (.int .u8 (.ofNat 0)), (.int .u8 (.ofNat 0)), (.int .u8 (.ofNat 0)), (.int .u8 (.ofNat 0)), (.int .u8 (.ofNat 0)), (.int .u8 (.ofNat 0)), (.int .u8 (.ofNat 0)), (.int .u8 (.ofNat 0)), (.int .u8 (.ofNat 0)), (.int .u8 (.ofNat 0)), (.int .u8 (.ofNat 0)), (.int .u8 (.ofNat 0)), (.int .u8 (.ofNat 0)), (.int .u8 (.ofNat 0)), (.int .u8 (.ofNat 0)), (.int .u8 (.ofNat 0)), (.int .u8 (.ofNat 0)), (.int .u8 (.ofNat 0)), (.int .u8 (.ofNat 0))]):= by kernel_rfl
theorem cf120 (first cap args : List AV) (h : H) : callV P (.func 120 first cap) args h = .enter 120 (first ++ args ++ cap) h := callV_func 120 (by kernel_rfl) first cap args
theorem cf121 (first cap args : List AV) (h : H) : callV P (.func 121 first cap) args h = .enter 121 (first ++ args ++ cap) h := callV_func 121 (by kernel_rfl) first cap args
theorem u37 : P.underlying 37 = some (.slice 5):= by kernel_rfl
theorem ap37_37 (h : H) (s : AV) (b o n : Nat) (c : Cap) (ts : List TypeId) (xs : List AV) : builtinA P .append (37 :: 37 :: ts) (s :: .slice b o n c :: xs) h = obs (h.row b o (n * 1)) fun new => appendN 5 1 s n new h := bi_append2 u37 u37 (fun _ q => nomatch q) (by kernel_rfl) s b o n c ts xs
theorem cf126 (first cap args : List AV) (h : H) : callV P (.func 126 first cap) args h = .enter 126 (first ++ args ++ cap) h := callV_func 126 (by kernel_rfl) first cap args
theorem cf127 (first cap args : List AV) (h : H) : callV P (.func 127 first cap) args h = .enter 127 (first ++ args ++ cap) h := callV_func 127 (by kernel_rfl) first cap args
theorem ld5 (h : H) (b o : Nat) : loadV P h 5 b o = cellAt h b o := loadV_one (by kernel_rfl) h b o
theorem cv5_3 (j : IntKind) (n : Int) (h : H) : convR P 5 3 (.int j n) h = .val (.int .i64 (wrapF .i64 n)) h := conv_int (u := .int .u8) (by kernel_rfl) (by kernel_rfl) j n
theorem cf13 (first cap args : List AV) (h : H) : callV P (.func 13 first cap) args h = .enter 13 (first ++ args ++ cap) h := callV_func 13 (by kernel_rfl) first cap args
theorem u44 : P.underlying 44 = some (.slice 74):= by kernel_rfl
theorem ln44 (h : H) (b o n : Nat) (c : Cap) (ts : List TypeId) (xs : List AV) : builtinA P .len (44 :: ts) (.slice b o n c :: xs) h = .val (.int .i64 (.ofNat n)) h := bi_len_slice u44 b o n c ts xs
theorem lm44 (h : H) (ts : List TypeId) (xs : List AV) : builtinA P .len (44 :: ts) (.nilslice :: xs) h = .val (.int .i64 (.ofNat 0)) h := bi_len_nil u44 ts xs
theorem ia44 (b o len : Nat) (cap : Cap) (kd : IntKind) (i : Nat) : indexAddrA P 44 (.slice b o len cap) (.int kd (.ofNat i)) = if i < len then some (.ptr b (o + i * 2)) else none := indexAddr_slice (e := 74) (by kernel_rfl) (by kernel_rfl) (by kernel_rfl) b o len cap kd i
theorem ok74 : okT P 74 = true:= by kernel_rfl
theorem ld74 (h : H) (b o : Nat) : loadV P h 74 b o = aggO (seqO [cellAt h b o, cellAt h b (o + 1)]) := ld_agg (k := 1) (by kernel_rfl) (by kernel_rfl) b o
theorem ex74 (a0 b0 : List Nat) (a1 b1 : List Nat) : eqA P 12 74 (.agg [.str a0, .str a1]) (.agg [.str b0, .str b1]) = andO (some (listEqB a0 b0)) (andO (some (listEqB a1 b1)) (some true)):= by kernel_rfl
theorem ea74 (h : H) (x y : Operand) (a b : List AV) : binR P h .eql 74 x y (.agg a) (.agg b) = eqO (eqA P 12 74 (.agg a) (.agg b)) h := b_eqlA (by kernel_rfl) a b
theorem na74 (h : H) (x y : Operand) (a b : List AV) : binR P h .neq 74 x y (.agg a) (.agg b) = neO (eqA P 12 74 (.agg a) (.agg b)) h := b_neqA (by kernel_rfl) a b
theorem cf12 (first cap args : List AV) (h : H) : callV P (.func 12 first cap) args h = .enter 12 (first ++ args ++ cap) h := callV_func 12 (by kernel_rfl) first cap args
theorem bs57_1_0 (p0_0 : AV) : buildSC P 57 1 [(0, [p0_0])] = some (9, [p0_0]):= by kernel_rfl
theorem u57 : P.underlying 57 = some (.slice 9):= by kernel_rfl
theorem ap57_57 (h : H) (s : AV) (b o n : Nat) (c : Cap) (ts : List TypeId) (xs : List AV) : builtinA P .append (57 :: 57 :: ts) (s :: .slice b o n c :: xs) h = obs (h.row b o (n * 1)) fun new => appendN 9 1 s n new h := bi_append2 u57 u57 (fun _ q => nomatch q) (by kernel_rfl) s b o n c ts xs
theorem cf27 (first cap args : List AV) (h : H) : callV P (.func 27 first cap) args h = .enter 27 (first ++ args ++ cap) h := callV_func 27 (by kernel_rfl) first cap args
theorem ln57 (h : H) (b o n : Nat) (c : Cap) (ts : List TypeId) (xs : List AV) : builtinA P .len (57 :: ts) (.slice b o n c :: xs) h = .val (.int .i64 (.ofNat n)) h := bi_len_slice u57 b o n c ts xs
theorem lm57 (h : H) (ts : List TypeId) (xs : List AV) : builtinA P .len (57 :: ts) (.nilslice :: xs) h = .val (.int .i64 (.ofNat 0)) h := bi_len_nil u57 ts xs
theorem ia57 (b o len : Nat) (cap : Cap) (kd : IntKind) (i : Nat) : indexAddrA P 57 (.slice b o len cap) (.int kd (.ofNat i)) = if i < len then some (.ptr b (o + i * 1)) else none := indexAddr_slice (e := 9) (by kernel_rfl) (by kernel_rfl) (by kernel_rfl) b o len cap kd i
theorem bc74_0_1 (p0_0 p1_0 : AV) : buildC P 74 [(0, [p0_0]), (1, [p1_0])] = some (.agg [p0_0, p1_0]):= by kernel_rfl
theorem bs44_1_0 (p0_0 p0_1 : AV) : buildSC P 44 1 [(0, [p0_0, p0_1])] = some (74, [p0_0, p0_1]):= by kernel_rfl
theorem ap44_44 (h : H) (s : AV) (b o n : Nat) (c : Cap) (ts : List TypeId) (xs : List AV) : builtinA P .append (44 :: 44 :: ts) (s :: .slice b o n c :: xs) h = obs (h.row b o (n * 2)) fun new => appendN 74 2 s n new h := bi_append2 u44 u44 (fun _ q => nomatch q) (by kernel_rfl) s b o n c ts xs
theorem cf9 (first cap args : List AV) (h : H) : callV P (.func 9 first cap) args h = .enter 9 (first ++ args ++ cap) h := callV_func 9 (by kernel_rfl) first cap args
theorem cf14 (first cap args : List AV) (h : H) : callV P (.func 14 first cap) args h = .enter 14 (first ++ args ++ cap) h := callV_func 14 (by kernel_rfl) first cap args
theorem fa51_0 (b o : Nat) : fieldAddrA P 51 (.ptr b o) 0 = some (.ptr b o):= by kernel_rfl
theorem ok49 : okT P 49 = true:= by kernel_rfl
theorem ld49 (h : H) (b o : Nat) : loadV P h 49 b o = cellAt h b o := loadV_one (by kernel_rfl) h b o
theorem u49 : P.underlying 49 = some (.slice 80):= by kernel_rfl
theorem ln49 (h : H) (b o n : Nat) (c : Cap) (ts : List TypeId) (xs : List AV) : builtinA P .len (49 :: ts) (.slice b o n c :: xs) h = .val (.int .i64 (.ofNat n)) h := bi_len_slice u49 b o n c ts xs
theorem lm49 (h : H) (ts : List TypeId) (xs : List AV) : builtinA P .len (49 :: ts) (.nilslice :: xs) h = .val (.int .i64 (.ofNat 0)) h := bi_len_nil u49 ts xs
theorem ia49 (b o len : Nat) (cap : Cap) (kd : IntKind) (i : Nat) : indexAddrA P 49 (.slice b o len cap) (.int kd (.ofNat i)) = if i < len then some (.ptr b (o + i * 3)) else none := indexAddr_slice (e := 80) (by kernel_rfl) (by kernel_rfl) (by kernel_rfl) b o len cap kd i
theorem ok80 : okT P 80 = true:= by kernel_rfl
theorem ld80 (h : H) (b o : Nat) : loadV P h 80 b o = aggO (seqO [cellAt h b o, cellAt h b (o + 1), cellAt h b (o + 2)]) := ld_agg (k := 2) (by kernel_rfl) (by kernel_rfl) b o
theorem cf28 (first cap args : List AV) (h : H) : callV P (.func 28 first cap) args h = .enter 28 (first ++ args ++ cap) h := callV_func 28 (by kernel_rfl) first cap args
theorem fa80_1 (b o : Nat) : fieldAddrA P 80 (.ptr b o) 1 = some (.ptr b (o + 1)):= by kernel_rfl
theorem cf43 (first cap args : List AV) (h : H) : callV P (.func 43 first cap) args h = .enter 43 (first ++ args ++ cap) h := callV_func 43 (by kernel_rfl) first cap args
theorem fa80_2 (b o : Nat) : fieldAddrA P 80 (.ptr b o) 2 = some (.ptr b (o + 2)):= by kernel_rfl
theorem cf44 (first cap args : List AV) (h : H) : callV P (.func 44 first cap) args h = .enter 44 (first ++ args ++ cap) h := callV_func 44 (by kernel_rfl) first cap args
theorem fa80_0 (b o : Nat) : fieldAddrA P 80 (.ptr b o) 0 = some (.ptr b o):= by kernel_rfl
theorem cf45 (first cap args : List AV) (h : H) : callV P (.func 45 first cap) args h = .enter 45 (first ++ args ++ cap) h := callV_func 45 (by kernel_rfl) first cap args
theorem cf30 (first cap args : List AV) (h : H) : callV P (.func 30 first cap) args h = .enter 30 (first ++ args ++ cap) h := callV_func 30 (by kernel_rfl) first cap args
theorem cf48 (first cap args : List AV) (h : H) : callV P (.func 48 first cap) args h = .enter 48 (first ++ args ++ cap) h := callV_func 48 (by kernel_rfl) first cap args
theorem cf47 (first cap args : List AV) (h : H) : callV P (.func 47 first cap) args h = .enter 47 (first ++ args ++ cap) h := callV_func 47 (by kernel_rfl) first cap args
theorem cf3 (first cap args : List AV) (h : H) : callV P (.func 3 first cap) args h = .enter 3 (first ++ args ++ cap) h := callV_func 3 (by kernel_rfl) first cap args
theorem z27 : zeroA P 27 = some (.agg [(.int .u64 (.ofNat 0)), (.int .u64 (.ofNat 0)), (.int .u64 (.ofNat 0)), (.int .u64 (.ofNat 0)), (.int .u64 (.ofNat 0)), (.int .u64 (.ofNat 0)), (.int .u64 (.ofNat 0)), (.int .u64 (.ofNat 0))]):= by kernel_rfl
theorem z28 : zeroA P 28 = some (.agg [(.str []), (.str []), (.str []), (.str []), (.str []), (.str []), (.str []), (.str [])]):= by kernel_rfl
theorem u22 : P.underlying 22 = some (.slice 29):= by kernel_rfl
theorem ln22 (h : H) (b o n : Nat) (c : Cap) (ts : List TypeId) (xs : List AV) : builtinA P .len (22 :: ts) (.slice b o n c :: xs) h = .val (.int .i64 (.ofNat n)) h := bi_len_slice u22 b o n c ts xs
theorem lm22 (h : H) (ts : List TypeId) (xs : List AV) : builtinA P .len (22 :: ts) (.nilslice :: xs) h = .val (.int .i64 (.ofNat 0)) h := bi_len_nil u22 ts xs
theorem ia22 (b o len : Nat) (cap : Cap) (kd : IntKind) (i : Nat) : indexAddrA P 22 (.slice b o len cap) (.int kd (.ofNat i)) = if i < len then some (.ptr b (o + i * 2)) else none := indexAddr_slice (e := 29) (by kernel_rfl) (by kernel_rfl) (by kernel_rfl) b o len cap kd i
theorem cf6 (first cap args : List AV) (h : H) : callV P (.func 6 first cap) args h = .enter 6 (first ++ args ++ cap) h := callV_func 6 (by kernel_rfl) first cap args
theorem cv5_26 (j : IntKind) (n : Int) (h : H) : convR P 5 26 (.int j n) h = .val (.int .u64 (wrapF .u64 n)) h := conv_int (u := .int .u8) (by kernel_rfl) (by kernel_rfl) j n
theorem ms37 (j k : IntKind) (l c : Nat) (h : H) (hl : l ≤ c) (hc : c ≤ 4194304) : makeSliceA P 37 (.int j (.ofNat l)) (.int k (.ofNat c)) h = .val (.slice h.nx 0 l (.exact c)) (h.newCells 5 (repl [(.int .u8 (.ofNat 0))] c)) := makeSlice_eq (e := 5) (z := (.int .u8 (.ofNat 0))) (by kernel_rfl) (by kernel_rfl) (by kernel_rfl) hl hc j k
theorem st26 (h : H) (v : AV) (hv : v.cells = [v]) (b o : Nat) : storeV P h 26 b o v = h.put b o [v] := storeV_one (by kernel_rfl) hv b o
theorem st9 (h : H) (v : AV) (hv : v.cells = [v]) (b o : Nat) : storeV P h 9 b o v = h.put b o [v] := storeV_one (by kernel_rfl) hv b o
theorem cf17 (first cap args : List AV) (h : H) : callV P (.func 17 first cap) args h = .enter 17 (first ++ args ++ cap) h := callV_func 17 (by kernel_rfl) first cap args
theorem cf16 (first cap args : List AV) (h : H) : callV P (.func 16 first cap) args h = .enter 16 (first ++ args ++ cap) h := callV_func 16 (by kernel_rfl) first cap args
theorem cf18 (first cap args : List AV) (h : H) : callV P (.func 18 first cap) args h = .enter 18 (first ++ args ++ cap) h := callV_func 18 (by kernel_rfl) first cap args
theorem cf19 (first cap args : List AV) (h : H) : callV P (.func 19 first cap) args h = .enter 19 (first ++ args ++ cap) h := callV_func 19 (by kernel_rfl) first cap args
theorem cf20 (first cap args : List AV) (h : H) : callV P (.func 20 first cap) args h = .enter 20 (first ++ args ++ cap) h := callV_func 20 (by kernel_rfl) first cap args
theorem cf32 (first cap args : List AV) (h : H) : callV P (.func 32 first cap) args h = .enter 32 (first ++ args ++ cap) h := callV_func 32 (by kernel_rfl) first cap args
theorem cf33 (first cap args : List AV) (h : H) : callV P (.func 33 first cap) args h = .enter 33 (first ++ args ++ cap) h := callV_func 33 (by kernel_rfl) first cap args
theorem cf34 (first cap args : List AV) (h : H) : callV P (.func 34 first cap) args h = .enter 34 (first ++ args ++ cap) h := callV_func 34 (by kernel_rfl) first cap args
theorem cf35 (first cap args : List AV) (h : H) : callV P (.func 35 first cap) args h = .enter 35 (first ++ args ++ cap) h := callV_func 35 (by kernel_rfl) first cap args
theorem cf36 (first cap args : List AV) (h : H) : callV P (.func 36 first cap) args h = .enter 36 (first ++ args ++ cap) h := callV_func 36 (by kernel_rfl) first cap args
theorem cf37 (first cap args : List AV) (h : H) : callV P (.func 37 first cap) args h = .enter 37 (first ++ args ++ cap) h := callV_func 37 (by kernel_rfl) first cap args
theorem cf29 (first cap args : List AV) (h : H) : callV P (.func 29 first cap) args h = .enter 29 (first ++ args ++ cap) h := callV_func 29 (by kernel_rfl) first cap args
theorem cf31 (first cap args : List AV) (h : H) : callV P (.func 31 first cap) args h = .enter 31 (first ++ args ++ cap) h := callV_func 31 (by kernel_rfl) first cap args
theorem cf46 (first cap args : List AV) (h : H) : callV P (.func 46 first cap) args h = .enter 46 (first ++ args ++ cap) h := callV_func 46 (by kernel_rfl) first cap args
theorem ok57 : okT P 57 = true:= by kernel_rfl
theorem ld57 (h : H) (b o : Nat) : loadV P h 57 b o = cellAt h b o := loadV_one (by kernel_rfl) h b o
theorem st57 (h : H) (v : AV) (hv : v.cells = [v]) (b o : Nat) : storeV P h 57 b o v = h.put b o [v] := storeV_one (by kernel_rfl) hv b o
theorem cf50 (first cap args : List AV) (h : H) : callV P (.func 50 first cap) args h = .enter 50 (first ++ args ++ cap) h := callV_func 50 (by kernel_rfl) first cap args
theorem cf49 (first cap args : List AV) (h : H) : callV P (.func 49 first cap) args h = .enter 49 (first ++ args ++ cap) h := callV_func 49 (by kernel_rfl) first cap args
theorem cf51 (first cap args : List AV) (h : H) : callV P (.func 51 first cap) args h = .enter 51 (first ++ args ++ cap) h := callV_func 51 (by kernel_rfl) first cap args
theorem z101 : zeroA P 101 = some (.agg [(.bool false), (.bool false), (.bool false), (.bool false), (.bool false), (.bool false), (.bool false), (.bool false), (.bool false), (.bool false), (.bool false), (.bool false), (.bool false), (.bool false), (.bool false), (.bool false), (.bool false), (.bool false), (.bool false), (.bool false), (.bool false), (.bool false), (.bool false), (.bool false), (.bool false), (.bool false), (.bool false), (.bool false), (.bool false), (.bool false), (.bool false), (.bool false), (.bool false), (.bool false), (.bool false), (.bool false), (.bool false), (.bool false), (.bool false), (.bool false), (.bool false), (.bool false), (.bool false), (.bool false), (.bool false), (.bool false), (.bool false), (.bool false), (.bool false), (.bool false), (.bool false), (.bool false), (.bool false), (.bool false), (.bool false), (.bool false), (.bool false), (.bool false), (.bool false), (.bool false), (.bool false), (.bool false), (.bool false), (.bool false), (.bool false), (.bool false), (.bool false), (.bool false), (.bool false), (.bool false), (.bool false), (.bool false), (.bool false), (.bool false), (.bool false), (.bool false), (.bool false), (.bool false), (.bool false), (.bool false), (.bool false), (.bool false), (.bool false), (.bool false), (.bool false), (.bool false), (.bool false), (.bool false), (.bool false), (.bool false), (.bool false), (.bool false), (.bool false), (.bool false), (.bool false), (.bool false), (.bool false), (.bool false), (.bool false), (.bool false), (.bool false), (.bool false), (.bool false), (.bool false), (.bool false), (.bool false), (.bool false), (.bool false), (.bool false), (.bool false), (.bool false), (.bool false), (.bool false), (.bool false), (.bool false), (.bool false), (.bool false), (.bool false), (.bool false), (.bool false), (.bool false), (.bool false), (.bool false), (.bool false), (.bool false), (.bool false), (.bool false), (.bool false), (.bool false), (.bool false), (.bool false), (.bool false), (.bool false), (.bool false), (.bool false), (.bool false), (.bool false), (.bool false), (.bool false), (.bool false), (.bool false), (.bool false), (.bool false), (.bool false), (.bool false), (.bool false), (.bool false), (.bool false), (.bool false), (.bool false), (.bool false), (.bool false), (.bool false), (.bool false), (.bool false), (.bool false), (.bool false), (.bool false), (.bool false), (.bool false), (.bool false), (.bool false), (.bool false), (.bool false), (.bool false), (.bool false), (.bool false), (.bool false), (.bool false), (.bool false), (.bool false), (.bool false), (.bool false), (.bool false), (.bool false), (.bool false), (.bool false), (.bool false), (.bool false), (.bool false), (.bool false), (.bool false), (.bool false), (.bool false), (.bool false), (.bool false), (.bool false), (.bool false), (.bool false), (.bool false), (.bool false), (.bool false), (.bool false), (.bool false), (.bool false), (.bool false), (.bool false), (.bool false), (.bool false), (.bool false), (.bool false), (.bool false), (.bool false), (.bool false), (.bool false), (.bool false), (.bool false), (.bool false), (.bool false), (.bool false), (.bool false), (.bool false), (.bool false), (.bool false), (.bool false), (.bool false), (.bool false), (.bool false), (.bool false), (.bool false), (.bool false), (.bool false), (.bool false), (.bool false), (.bool false), (.bool false), (.bool false), (.bool false), (.bool false), (.bool false), (.bool false), (.bool false), (.bool false), (.bool false), (.bool false), (.bool false), (.bool false), (.bool false), (.bool false), (.bool false), (.bool false), (.bool false), (.bool false), (.bool false), (.bool false), (.bool false), (.bool false), (.bool false), (.bool false), (.bool false), (.bool false), (.bool false), (.bool false), (.bool false), (.bool false), (.bool false)]):= by kernel_rfl
theorem ok101 : okT P 101 = true:= by kernel_rfl
theorem st101 (h : H) (l : List AV) (hl : l.length = 256) (b o : Nat) : storeV P h 101 b o (.agg l) = h.put b o l := storeV_agg (by kernel_rfl) hl b o
theorem cf53 (first cap args : List AV) (h : H) : callV P (.func 53 first cap) args h = .enter 53 (first ++ args ++ cap) h := callV_func 53 (by kernel_rfl) first cap args
theorem cf52 (first cap args : List AV) (h : H) : callV P (.func 52 first cap) args h = .enter 52 (first ++ args ++ cap) h := callV_func 52 (by kernel_rfl) first cap args
theorem cf55 (first cap args : List AV) (h : H) : callV P (.func 55 first cap) args h = .enter 55 (first ++ args ++ cap) h := callV_func 55 (by kernel_rfl) first cap args
theorem cf54 (first cap args : List AV) (h : H) : callV P (.func 54 first cap) args h = .enter 54 (first ++ args ++ cap) h := callV_func 54 (by kernel_rfl) first cap args
theorem cf56 (first cap args : List AV) (h : H) : callV P (.func 56 first cap) args h = .enter 56 (first ++ args ++ cap) h := callV_func 56 (by kernel_rfl) first cap args
theorem cf57 (first cap args : List AV) (h : H) : callV P (.func 57 first cap) args h = .enter 57 (first ++ args ++ cap) h := callV_func 57 (by kernel_rfl) first cap args
theorem ld101 (h : H) (b o : Nat) : loadV P h 101 b o = aggO (seqO [cellAt h b o, cellAt h b (o + 1), cellAt h b (o + 2), cellAt h b (o + 3), cellAt h b (o + 4), cellAt h b (o + 5), cellAt h b (o + 6), cellAt h b (o + 7), cellAt h b (o + 8), cellAt h b (o + 9), cellAt h b (o + 10), cellAt h b (o + 11), cellAt h b (o + 12), cellAt h b (o + 13), cellAt h b (o + 14), cellAt h b (o + 15), cellAt h b (o + 16), cellAt h b (o + 17), cellAt h b (o + 18), cellAt h b (o + 19), cellAt h b (o + 20), cellAt h b (o + 21), cellAt h b (o + 22), cellAt h b (o + 23), cellAt h b (o + 24), cellAt h b (o + 25), cellAt h b (o + 26), cellAt h b (o + 27), cellAt h b (o + 28), cellAt h b (o + 29), cellAt h b (o + 30), cellAt h b (o + 31), cellAt h b (o + 32), cellAt h b (o + 33), cellAt h b (o + 34), cellAt h b (o + 35), cellAt h b (o + 36), cellAt h b (o + 37), cellAt h b (o + 38), cellAt h b (o + 39), cellAt h b (o + 40), cellAt h b (o + 41), cellAt h b (o + 42), cellAt h b (o + 43), cellAt h b (o + 44), cellAt h b (o + 45), cellAt h b (o + 46), cellAt h b (o + 47), cellAt h b (o + 48), cellAt h b (o + 49), cellAt h b (o + 50), cellAt h b (o + 51), cellAt h b (o + 52), cellAt h b (o + 53), cellAt h b (o + 54), cellAt h b (o + 55), cellAt h b (o + 56), cellAt h b (o + 57), cellAt h b (o + 58), cellAt h b (o + 59), cellAt h b (o + 60), cellAt h b (o + 61), cellAt h b (o + 62), cellAt h b (o + 63), cellAt h b (o + 64), cellAt h b (o + 65), cellAt h b (o + 66), cellAt h b (o + 67), cellAt h b (o + 68), cellAt h b (o + 69), cellAt h b (o + 70), cellAt h b (o + 71), cellAt h b (o + 72), cellAt h b (o + 73), cellAt h b (o + 74), cellAt h b (o + 75), cellAt h b (o + 76), cellAt h b (o + 77), cellAt h b (o + 78), cellAt h b (o + 79), cellAt h b (o + 80), cellAt h b (o + 81), cellAt h b (o + 82), cellAt h b (o + 83), cellAt h b (o + 84), cellAt h b (o + 85), cellAt h b (o + 86), cellAt h b (o + 87), cellAt h b (o + 88), cellAt h b (o + 89), cellAt h b (o + 90), cellAt h b (o + 91), cellAt h b (o + 92), cellAt h b (o + 93), cellAt h b (o + 94), cellAt h b (o + 95), cellAt h b (o + 96), cellAt h b (o + 97), cellAt h b (o + 98), cellAt h b (o + 99), cellAt h b (o + 100), cellAt h b (o + 101), cellAt h b (o + 102), cellAt h b (o + 103), cellAt h b (o + 104), cellAt h b (o + 105), cellAt h b (o + 106), cellAt h b (o + 107), cellAt h b (o + 108), cellAt h b (o + 109), cellAt h b (o + 110), cellAt h b (o + 111), cellAt h b (o + 112), cellAt h b (o + 113), cellAt h b (o + 114), cellAt h b (o + 115), cellAt h b (o + 116), cellAt h b (o + 117), cellAt h b (o + 118), cellAt h b (o + 119), cellAt h b (o + 120), cellAt h b (o + 121), cellAt h b (o + 122), cellAt h b (o + 123), cellAt h b (o + 124), cellAt h b (o + 125), cellAt h b (o + 126), cellAt h b (o + 127), cellAt h b (o + 128), cellAt h b (o + 129), cellAt h b (o + 130), cellAt h b (o + 131), cellAt h b (o + 132), cellAt h b (o + 133), cellAt h b (o + 134), cellAt h b (o + 135), cellAt h b (o + 136), cellAt h b (o + 137), cellAt h b (o + 138), cellAt h b (o + 139), cellAt h b (o + 140), cellAt h b (o + 141), cellAt h b (o + 142), cellAt h b (o + 143), cellAt h b (o + 144), cellAt h b (o + 145), cellAt h b (o + 146), cellAt h b (o + 147), cellAt h b (o + 148), cellAt h b (o + 149), cellAt h b (o + 150), cellAt h b (o + 151), cellAt h b (o + 152), cellAt h b (o + 153), cellAt h b (o + 154), cellAt h b (o + 155), cellAt h b (o + 156), cellAt h b (o + 157), cellAt h b (o + 158), cellAt h b (o + 159), cellAt h b (o + 160), cellAt h b (o + 161), cellAt h b (o + 162), cellAt h b (o + 163), cellAt h b (o + 164), cellAt h b (o + 165), cellAt h b (o + 166), cellAt h b (o + 167), cellAt h b (o + 168), cellAt h b (o + 169), cellAt h b (o + 170), cellAt h b (o + 171), cellAt h b (o + 172), cellAt h b (o + 173), cellAt h b (o + 174), cellAt h b (o + 175), cellAt h b (o + 176), cellAt h b (o + 177), cellAt h b (o + 178), cellAt h b (o + 179), cellAt h b (o + 180), cellAt h b (o + 181), cellAt h b (o + 182), cellAt h b (o + 183), cellAt h b (o + 184), cellAt h b (o + 185), cellAt h b (o + 186), cellAt h b (o + 187), cellAt h b (o + 188), cellAt h b (o + 189), cellAt h b (o + 190), cellAt h b (o + 191), cellAt h b (o + 192), cellAt h b (o + 193), cellAt h b (o + 194), cellAt h b (o + 195), cellAt h b (o + 196), cellAt h b (o + 197), cellAt h b (o + 198), cellAt h b (o + 199), cellAt h b (o + 200), cellAt h b (o + 201), cellAt h b (o + 202), cellAt h b (o + 203), cellAt h b (o + 204), cellAt h b (o + 205), cellAt h b (o + 206), cellAt h b (o + 207), cellAt h b (o + 208), cellAt h b (o + 209), cellAt h b (o + 210), cellAt h b (o + 211), cellAt h b (o + 212), cellAt h b (o + 213), cellAt h b (o + 214), cellAt h b (o + 215), cellAt h b (o + 216), cellAt h b (o + 217), cellAt h b (o + 218), cellAt h b (o + 219), cellAt h b (o + 220), cellAt h b (o + 221), cellAt h b (o + 222), cellAt h b (o + 223), cellAt h b (o + 224), cellAt h b (o + 225), cellAt h b (o + 226), cellAt h b (o + 227), cellAt h b (o + 228), cellAt h b (o + 229), cellAt h b (o + 230), cellAt h b (o + 231), cellAt h b (o + 232), cellAt h b (o + 233), cellAt h b (o + 234), cellAt h b (o + 235), cellAt h b (o + 236), cellAt h b (o + 237), cellAt h b (o + 238), cellAt h b (o + 239), cellAt h b (o + 240), cellAt h b (o + 241), cellAt h b (o + 242), cellAt h b (o + 243), cellAt h b (o + 244), cellAt h b (o + 245), cellAt h b (o + 246), cellAt h b (o + 247), cellAt h b (o + 248), cellAt h b (o + 249), cellAt h b (o + 250), cellAt h b (o + 251), cellAt h b (o + 252), cellAt h b (o + 253), cellAt h b (o + 254), cellAt h b (o + 255)]) := ld_agg (k := 255) (by kernel_rfl) (by kernel_rfl) b o
theorem ok4 : okT P 4 = true:= by kernel_rfl
theorem st4 (h : H) (v : AV) (hv : v.cells = [v]) (b o : Nat) : storeV P h 4 b o v = h.put b o [v] := storeV_one (by kernel_rfl) hv b o
theorem cf74 (first cap args : List AV) (h : H) : callV P (.func 74 first cap) args h = .enter 74 (first ++ args ++ cap) h := callV_func 74 (by kernel_rfl) first cap args
theorem cf78 (first cap args : List AV) (h : H) : callV P (.func 78 first cap) args h = .enter 78 (first ++ args ++ cap) h := callV_func 78 (by kernel_rfl) first cap args
theorem ln37 (h : H) (b o n : Nat) (c : Cap) (ts : List TypeId) (xs : List AV) : builtinA P .len (37 :: ts) (.slice b o n c :: xs) h = .val (.int .i64 (.ofNat n)) h := bi_len_slice u37 b o n c ts xs
theorem lm37 (h : H) (ts : List TypeId) (xs : List AV) : builtinA P .len (37 :: ts) (.nilslice :: xs) h = .val (.int .i64 (.ofNat 0)) h := bi_len_nil u37 ts xs
theorem ia37 (b o len : Nat) (cap : Cap) (kd : IntKind) (i : Nat) : indexAddrA P 37 (.slice b o len cap) (.int kd (.ofNat i)) = if i < len then some (.ptr b (o + i * 1)) else none := indexAddr_slice (e := 5) (by kernel_rfl) (by kernel_rfl) (by kernel_rfl) b o len cap kd i
theorem cf79 (first cap args : List AV) (h : H) : callV P (.func 79 first cap) args h = .enter 79 (first ++ args ++ cap) h := callV_func 79 (by kernel_rfl) first cap args
theorem cf80 (first cap args : List AV) (h : H) : callV P (.func 80 first cap) args h = .enter 80 (first ++ args ++ cap) h := callV_func 80 (by kernel_rfl) first cap args
theorem cf81 (first cap args : List AV) (h : H) : callV P (.func 81 first cap) args h = .enter 81 (first ++ args ++ cap) h := callV_func 81 (by kernel_rfl) first cap args
theorem cf82 (first cap args : List AV) (h : H) : callV P (.func 82 first cap) args h = .enter 82 (first ++ args ++ cap) h := callV_func 82 (by kernel_rfl) first cap args
theorem cf83 (first cap args : List AV) (h : H) : callV P (.func 83 first cap) args h = .enter 83 (first ++ args ++ cap) h := callV_func 83 (by kernel_rfl) first cap args
theorem ld4 (h : H) (b o : Nat) : loadV P h 4 b o = cellAt h b o := loadV_one (by kernel_rfl) h b o
theorem bc108_0 (p0_0 : AV) : buildC P 108 [(0, [p0_0])] = some (.agg [p0_0, (.bool false)]):= by kernel_rfl
theorem ok89 : okT P 89 = true:= by kernel_rfl
theorem ld89 (h : H) (b o : Nat) : loadV P h 89 b o = cellAt h b o := loadV_one (by kernel_rfl) h b o
theorem u89 : P.underlying 89 = some (.pointer 108):= by kernel_rfl
theorem eq89 (h : H) (x y : Operand) (b o : Nat) : binR P h .eql 89 x y (.ptr b o) .nilptr = .val (.bool false) h := b_eqlPn u89 b o
theorem ne89 (h : H) (x y : Operand) (b o : Nat) : binR P h .neq 89 x y (.ptr b o) .nilptr = .val (.bool true) h := b_neqPn u89 b o
theorem en89 (h : H) (x y : Operand) : binR P h .eql 89 x y .nilptr .nilptr = .val (.bool true) h := b_eqlNn u89
theorem nn89 (h : H) (x y : Operand) : binR P h .neq 89 x y .nilptr .nilptr = .val (.bool false) h := b_neqNn u89
theorem cf58 (first cap args : List AV) (h : H) : callV P (.func 58 first cap) args h = .enter 58 (first ++ args ++ cap) h := callV_func 58 (by kernel_rfl) first cap args
theorem fa108_0 (b o : Nat) : fieldAddrA P 108 (.ptr b o) 0 = some (.ptr b o):= by kernel_rfl
theorem bc108_1 (p1_0 : AV) : buildC P 108 [(1, [p1_0])] = some (.agg [(.str []), p1_0]):= by kernel_rfl
theorem ok108 : okT P 108 = true:= by kernel_rfl
theorem st108 (h : H) (l : List AV) (hl : l.length = 2) (b o : Nat) : storeV P h 108 b o (.agg l) = h.put b o l := storeV_agg (by kernel_rfl) hl b o
theorem cf59 (first cap args : List AV) (h : H) : callV P (.func 59 first cap) args h = .enter 59 (first ++ args ++ cap) h := callV_func 59 (by kernel_rfl) first cap args
theorem fa108_1 (b o : Nat) : fieldAddrA P 108 (.ptr b o) 1 = some (.ptr b (o + 1)):= by kernel_rfl
theorem cf4 (first cap args : List AV) (h : H) : callV P (.func 4 first cap) args h = .enter 4 (first ++ args ++ cap) h := callV_func 4 (by kernel_rfl) first cap args
theorem cf11 (first cap args : List AV) (h : H) : callV P (.func 11 first cap) args h = .enter 11 (first ++ args ++ cap) h := callV_func 11 (by kernel_rfl) first cap args
theorem u41 : P.underlying 41 = some (.pointer 51):= by kernel_rfl
theorem eq41 (h : H) (x y : Operand) (b o : Nat) : binR P h .eql 41 x y (.ptr b o) .nilptr = .val (.bool false) h := b_eqlPn u41 b o
theorem ne41 (h : H) (x y : Operand) (b o : Nat) : binR P h .neq 41 x y (.ptr b o) .nilptr = .val (.bool true) h := b_neqPn u41 b o
theorem en41 (h : H) (x y : Operand) : binR P h .eql 41 x y .nilptr .nilptr = .val (.bool true) h := b_eqlNn u41
theorem nn41 (h : H) (x y : Operand) : binR P h .neq 41 x y .nilptr .nilptr = .val (.bool false) h := b_neqNn u41
theorem u4 : P.underlying 4 = some (.bool):= by kernel_rfl
theorem eq4 (h : H) (x y : Operand) (a b : Bool) : binR P h .eql 4 x y (.bool a) (.bool b) = .val (.bool (a == b)) h := b_eqlB u4 a b
theorem ne4 (h : H) (x y : Operand) (a b : Bool) : binR P h .neq 4 x y (.bool a) (.bool b) = .val (.bool (!(a == b))) h := b_neqB u4 a b
theorem bc51_ : buildC P 51 [] = some (.agg [.nilslice]):= by kernel_rfl
theorem fa74_0 (b o : Nat) : fieldAddrA P 74 (.ptr b o) 0 = some (.ptr b o):= by kernel_rfl
theorem cf23 (first cap args : List AV) (h : H) : callV P (.func 23 first cap) args h = .enter 23 (first ++ args ++ cap) h := callV_func 23 (by kernel_rfl) first cap args
theorem fa74_1 (b o : Nat) : fieldAddrA P 74 (.ptr b o) 1 = some (.ptr b (o + 1)):= by kernel_rfl
theorem bc77_0 (p0_0 : AV) : buildC P 77 [(0, [p0_0])] = some (.agg [p0_0, (.bool false)]):= by kernel_rfl
theorem cf24 (first cap args : List AV) (h : H) : callV P (.func 24 first cap) args h = .enter 24 (first ++ args ++ cap) h := callV_func 24 (by kernel_rfl) first cap args
theorem bc80_0_1 (p0_0 p1_0 : AV) : buildC P 80 [(0, [p0_0]), (1, [p1_0])] = some (.agg [p0_0, p1_0, (.str [])]):= by kernel_rfl
theorem z80 : zeroA P 80 = some (.agg [(.int .u64 (.ofNat 0)), (.int .u64 (.ofNat 0)), (.str [])]):= by kernel_rfl
theorem st80 (h : H) (l : List AV) (hl : l.length = 3) (b o : Nat) : storeV P h 80 b o (.agg l) = h.put b o l := storeV_agg (by kernel_rfl) hl b o
theorem cf25 (first cap args : List AV) (h : H) : callV P (.func 25 first cap) args h = .enter 25 (first ++ args ++ cap) h := callV_func 25 (by kernel_rfl) first cap args
theorem cf26 (first cap args : List AV) (h : H) : callV P (.func 26 first cap) args h = .enter 26 (first ++ args ++ cap) h := callV_func 26 (by kernel_rfl) first cap args
theorem bs49_1_0 (p0_0 p0_1 p0_2 : AV) : buildSC P 49 1 [(0, [p0_0, p0_1, p0_2])] = some (80, [p0_0, p0_1, p0_2]):= by kernel_rfl
theorem ap49_49 (h : H) (s : AV) (b o n : Nat) (c : Cap) (ts : List TypeId) (xs : List AV) : builtinA P .append (49 :: 49 :: ts) (s :: .slice b o n c :: xs) h = obs (h.row b o (n * 3)) fun new => appendN 80 3 s n new h := bi_append2 u49 u49 (fun _ q => nomatch q) (by kernel_rfl) s b o n c ts xs
theorem st49 (h : H) (v : AV) (hv : v.cells = [v]) (b o : Nat) : storeV P h 49 b o v = h.put b o [v] := storeV_one (by kernel_rfl) hv b o
theorem fa77_0 (b o : Nat) : fieldAddrA P 77 (.ptr b o) 0 = some (.ptr b o):= by kernel_rfl
theorem cf42 (first cap args : List AV) (h : H) : callV P (.func 42 first cap) args h = .enter 42 (first ++ args ++ cap) h := callV_func 42 (by kernel_rfl) first cap args
theorem fa77_1 (b o : Nat) : fieldAddrA P 77 (.ptr b o) 1 = some (.ptr b (o + 1)):= by kernel_rfl
set_option maxRecDepth 100000 in
theorem F : ((((((((type_of% @cf5) ∧ ((type_of% @bc55_0) ∧ (type_of% @cf7))) ∧ ((type_of% @eq23) ∧ ((type_of% @ne23) ∧ (type_of% @en23)))) ∧ (((type_of% @nn23) ∧ ((type_of% @fa55_0) ∧ (type_of% @ok53))) ∧ (((type_of% @ld53) ∧ (type_of% @z65)) ∧ ((type_of% @ok65) ∧ (type_of% @st65))))) ∧ ((((type_of% @cf21) ∧ ((type_of% @fa65_0) ∧ (type_of% @ok26))) ∧ ((type_of% @ld26) ∧ ((type_of% @fa65_1) ∧ (type_of% @ok9)))) ∧ (((type_of% @ld9) ∧ ((type_of% @cf8) ∧ (type_of% @ln9))) ∧ (((type_of% @z25) ∧ (type_of% @ok25)) ∧ ((type_of% @st25) ∧ (type_of% @ld65)))))) ∧ (((((type_of% @cf22) ∧ ((type_of% @ld25) ∧ (type_of% @bc65_0_1))) ∧ ((type_of% @cf15) ∧ ((type_of% @cf10) ∧ (type_of% @cf38)))) ∧ (((type_of% @cf40) ∧ ((type_of% @cf39) ∧ (type_of% @cf41))) ∧ (((type_of% @cv3_26) ∧ (type_of% @bs131_1_0)) ∧ ((type_of% @cf60) ∧ (type_of% @cf61))))) ∧ ((((type_of% @cf62) ∧ ((type_of% @ln131) ∧ (type_of% @lm131))) ∧ ((type_of% @ia131) ∧ ((type_of% @cv26_5) ∧ (type_of% @bs37_1_0)))) ∧ (((type_of% @z132) ∧ ((type_of% @ok5) ∧ (type_of% @st5))) ∧ (((type_of% @cv3_5) ∧ (type_of% @cf84)) ∧ ((type_of% @cv3_98) ∧ (type_of% @cf85))))))) ∧ ((((((type_of% @cv98_3) ∧ ((type_of% @cf86) ∧ (type_of% @z137))) ∧ ((type_of% @cf87) ∧ ((type_of% @cf88) ∧ (type_of% @cf89)))) ∧ (((type_of% @cf90) ∧ ((type_of% @cv26_3) ∧ (type_of% @cf103))) ∧ (((type_of% @z152) ∧ (type_of% @cf104)) ∧ ((type_of% @cf105) ∧ (type_of% @cf106))))) ∧ ((((type_of% @cv98_120) ∧ ((type_of% @cf107) ∧ (type_of% @cv120_98))) ∧ ((type_of% @cf108) ∧ ((type_of% @cf109) ∧ (type_of% @z177)))) ∧ (((type_of% @cf120) ∧ ((type_of% @cf121) ∧ (type_of% @ap37_37))) ∧ (((type_of% @cf126) ∧ (type_of% @cf127)) ∧ ((type_of% @ld5) ∧ (type_of% @cv5_3)))))) ∧ (((((type_of% @cf13) ∧ ((type_of% @ln44) ∧ (type_of% @lm44))) ∧ ((type_of% @ia44) ∧ ((type_of% @ok74) ∧ (type_of% @ld74)))) ∧ (((type_of% @ex74) ∧ ((type_of% @ea74) ∧ (type_of% @na74))) ∧ (((type_of% @cf12) ∧ (type_of% @bs57_1_0)) ∧ ((type_of% @ap57_57) ∧ (type_of% @cf27))))) ∧ ((((type_of% @ln57) ∧ ((type_of% @lm57) ∧ (type_of% @ia57))) ∧ (((type_of% @bc74_0_1) ∧ (type_of% @bs44_1_0)) ∧ ((type_of% @ap44_44) ∧ (type_of% @cf9)))) ∧ (((type_of% @cf14) ∧ ((type_of% @fa51_0) ∧ (type_of% @ok49))) ∧ (((type_of% @ld49) ∧ (type_of% @ln49)) ∧ ((type_of% @lm49) ∧ (type_of% @ia49)))))))) ∧ (((((((type_of% @ok80) ∧ ((type_of% @ld80) ∧ (type_of% @cf28))) ∧ ((type_of% @fa80_1) ∧ ((type_of% @cf43) ∧ (type_of% @fa80_2)))) ∧ (((type_of% @cf44) ∧ ((type_of% @fa80_0) ∧ (type_of% @cf45))) ∧ (((type_of% @cf30) ∧ (type_of% @cf48)) ∧ ((type_of% @cf47) ∧ (type_of% @cf3))))) ∧ ((((type_of% @z27) ∧ ((type_of% @z28) ∧ (type_of% @ln22))) ∧ ((type_of% @lm22) ∧ ((type_of% @ia22) ∧ (type_of% @cf6)))) ∧ (((type_of% @cv5_26) ∧ ((type_of% @ms37) ∧ (type_of% @st26))) ∧ (((type_of% @st9) ∧ (type_of% @cf17)) ∧ ((type_of% @cf16) ∧ (type_of% @cf18)))))) ∧ (((((type_of% @cf19) ∧ ((type_of% @cf20) ∧ (type_of% @cf32))) ∧ ((type_of% @cf33) ∧ ((type_of% @cf34) ∧ (type_of% @cf35)))) ∧ (((type_of% @cf36) ∧ ((type_of% @cf37) ∧ (type_of% @cf29))) ∧ (((type_of% @cf31) ∧ (type_of% @cf46)) ∧ ((type_of% @ok57) ∧ (type_of% @ld57))))) ∧ ((((type_of% @st57) ∧ ((type_of% @cf50) ∧ (type_of% @cf49))) ∧ ((type_of% @cf51) ∧ ((type_of% @z101) ∧ (type_of% @ok101)))) ∧ (((type_of% @st101) ∧ ((type_of% @cf53) ∧ (type_of% @cf52))) ∧ (((type_of% @cf55) ∧ (type_of% @cf54)) ∧ ((type_of% @cf56) ∧ (type_of% @cf57))))))) ∧ ((((((type_of% @ld101) ∧ ((type_of% @ok4) ∧ (type_of% @st4))) ∧ ((type_of% @cf74) ∧ ((type_of% @cf78) ∧ (type_of% @ln37)))) ∧ (((type_of% @lm37) ∧ ((type_of% @ia37) ∧ (type_of% @cf79))) ∧ (((type_of% @cf80) ∧ (type_of% @cf81)) ∧ ((type_of% @cf82) ∧ (type_of% @cf83))))) ∧ ((((type_of% @ld4) ∧ ((type_of% @bc108_0) ∧ (type_of% @ok89))) ∧ ((type_of% @ld89) ∧ ((type_of% @eq89) ∧ (type_of% @ne89)))) ∧ (((type_of% @en89) ∧ ((type_of% @nn89) ∧ (type_of% @cf58))) ∧ (((type_of% @fa108_0) ∧ (type_of% @bc108_1)) ∧ ((type_of% @ok108) ∧ (type_of% @st108)))))) ∧ (((((type_of% @cf59) ∧ ((type_of% @fa108_1) ∧ (type_of% @cf4))) ∧ ((type_of% @cf11) ∧ ((type_of% @eq41) ∧ (type_of% @ne41)))) ∧ (((type_of% @en41) ∧ ((type_of% @nn41) ∧ (type_of% @eq4))) ∧ (((type_of% @ne4) ∧ (type_of% @bc51_)) ∧ ((type_of% @fa74_0) ∧ (type_of% @cf23))))) ∧ ((((type_of% @fa74_1) ∧ ((type_of% @bc77_0) ∧ (type_of% @cf24))) ∧ (((type_of% @bc80_0_1) ∧ (type_of% @z80)) ∧ ((type_of% @st80) ∧ (type_of% @cf25)))) ∧ (((type_of% @cf26) ∧ ((type_of% @bs49_1_0) ∧ (type_of% @ap49_49))) ∧ (((type_of% @st49) ∧ (type_of% @fa77_0)) ∧ ((type_of% @cf42) ∧ (type_of% @fa77_1))))))))) :=
 ⟨⟨⟨⟨⟨⟨⟨@cf5, ⟨@bc55_0, @cf7⟩⟩, ⟨@eq23, ⟨@ne23, @en23⟩⟩⟩, ⟨⟨@nn23, ⟨@fa55_0, @ok53⟩⟩, ⟨⟨@ld53, @z65⟩, ⟨@ok65, @st65⟩⟩⟩⟩, ⟨⟨⟨@cf21, ⟨@fa65_0, @ok26⟩⟩, ⟨@ld26, ⟨@fa65_1, @ok9⟩⟩⟩, ⟨⟨@ld9, ⟨@cf8, @ln9⟩⟩, ⟨⟨@z25, @ok25⟩, ⟨@st25, @ld65⟩⟩⟩⟩⟩, ⟨⟨⟨⟨@cf22, ⟨@ld25, @bc65_0_1⟩⟩, ⟨@cf15, ⟨@cf10, @cf38⟩⟩⟩, ⟨⟨@cf40, ⟨@cf39, @cf41⟩⟩, ⟨⟨@cv3_26, @bs131_1_0⟩, ⟨@cf60, @cf61⟩⟩⟩⟩, ⟨⟨⟨@cf62, ⟨@ln131, @lm131⟩⟩, ⟨@ia131, ⟨@cv26_5, @bs37_1_0⟩⟩⟩, ⟨⟨@z132, ⟨@ok5, @st5⟩⟩, ⟨⟨@cv3_5, @cf84⟩, ⟨@cv3_98, @cf85⟩⟩⟩⟩⟩⟩, ⟨⟨⟨⟨⟨@cv98_3, ⟨@cf86, @z137⟩⟩, ⟨@cf87, ⟨@cf88, @cf89⟩⟩⟩, ⟨⟨@cf90, ⟨@cv26_3, @cf103⟩⟩, ⟨⟨@z152, @cf104⟩, ⟨@cf105, @cf106⟩⟩⟩⟩, ⟨⟨⟨@cv98_120, ⟨@cf107, @cv120_98⟩⟩, ⟨@cf108, ⟨@cf109, @z177⟩⟩⟩, ⟨⟨@cf120, ⟨@cf121, @ap37_37⟩⟩, ⟨⟨@cf126, @cf127⟩, ⟨@ld5, @cv5_3⟩⟩⟩⟩⟩, ⟨⟨⟨⟨@cf13, ⟨@ln44, @lm44⟩⟩, ⟨@ia44, ⟨@ok74, @ld74⟩⟩⟩, ⟨⟨@ex74, ⟨@ea74, @na74⟩⟩, ⟨⟨@cf12, @bs57_1_0⟩, ⟨@ap57_57, @cf27⟩⟩⟩⟩, ⟨⟨⟨@ln57, ⟨@lm57, @ia57⟩⟩, ⟨⟨@bc74_0_1, @bs44_1_0⟩, ⟨@ap44_44, @cf9⟩⟩⟩, ⟨⟨@cf14, ⟨@fa51_0, @ok49⟩⟩, ⟨⟨@ld49, @ln49⟩, ⟨@lm49, @ia49⟩⟩⟩⟩⟩⟩⟩, ⟨⟨⟨⟨⟨⟨@ok80, ⟨@ld80, @cf28⟩⟩, ⟨@fa80_1, ⟨@cf43, @fa80_2⟩⟩⟩, ⟨⟨@cf44, ⟨@fa80_0, @cf45⟩⟩, ⟨⟨@cf30, @cf48⟩, ⟨@cf47, @cf3⟩⟩⟩⟩, ⟨⟨⟨@z27, ⟨@z28, @ln22⟩⟩, ⟨@lm22, ⟨@ia22, @cf6⟩⟩⟩, ⟨⟨@cv5_26, ⟨@ms37, @st26⟩⟩, ⟨⟨@st9, @cf17⟩, ⟨@cf16, @cf18⟩⟩⟩⟩⟩, ⟨⟨⟨⟨@cf19, ⟨@cf20, @cf32⟩⟩, ⟨@cf33, ⟨@cf34, @cf35⟩⟩⟩, ⟨⟨@cf36, ⟨@cf37, @cf29⟩⟩, ⟨⟨@cf31, @cf46⟩, ⟨@ok57, @ld57⟩⟩⟩⟩, ⟨⟨⟨@st57, ⟨@cf50, @cf49⟩⟩, ⟨@cf51, ⟨@z101, @ok101⟩⟩⟩, ⟨⟨@st101, ⟨@cf53, @cf52⟩⟩, ⟨⟨@cf55, @cf54⟩, ⟨@cf56, @cf57⟩⟩⟩⟩⟩⟩, ⟨⟨⟨⟨⟨@ld101, ⟨@ok4, @st4⟩⟩, ⟨@cf74, ⟨@cf78, @ln37⟩⟩⟩, ⟨⟨@lm37, ⟨@ia37, @cf79⟩⟩, ⟨⟨@cf80, @cf81⟩, ⟨@cf82, @cf83⟩⟩⟩⟩, ⟨⟨⟨@ld4, ⟨@bc108_0, @ok89⟩⟩, ⟨@ld89, ⟨@eq89, @ne89⟩⟩⟩, ⟨⟨@en89, ⟨@nn89, @cf58⟩⟩, ⟨⟨@fa108_0, @bc108_1⟩, ⟨@ok108, @st108⟩⟩⟩⟩⟩, ⟨⟨⟨⟨@cf59, ⟨@fa108_1, @cf4⟩⟩, ⟨@cf11, ⟨@eq41, @ne41⟩⟩⟩, ⟨⟨@en41, ⟨@nn41, @eq4⟩⟩, ⟨⟨@ne4, @bc51_⟩, ⟨@fa74_0, @cf23⟩⟩⟩⟩, ⟨⟨⟨@fa74_1, ⟨@bc77_0, @cf24⟩⟩, ⟨⟨@bc80_0_1, @z80⟩, ⟨@st80, @cf25⟩⟩⟩, ⟨⟨@cf26, ⟨@bs49_1_0, @ap49_49⟩⟩, ⟨⟨@st49, @fa77_0⟩, ⟨@cf42, @fa77_1⟩⟩⟩⟩⟩⟩⟩⟩
theorem V {a b : Prop} (x : a) (y : b) : a ∧ b := ⟨x, y⟩
abbrev M64 : Nat := 18446744073709551616
def Og (h h' : H) (S : List Nat) : Prop := Only h h' S ∧ h'.g = h.g
theorem Og.refl (h : H) (S : List Nat) : Og h h S := ⟨Only.refl _ _, rfl⟩
theorem Og.t {h h1 h2 : H} (a : Og h h1 []) (b : Og h1 h2 []) : Og h h2 [] := ⟨⟨Nat.le_trans a.1.1 b.1.1, fun c hc hn => (b.1.2 c (Nat.lt_of_lt_of_le hc a.1.1) (by simp)).trans (a.1.2 c hc (by simp))⟩, b.2.trans a.2⟩
theorem g_sts (h : H) (b o : Nat) (l : List AV) : (h.sts b o l).g = h.g:= by unfold H.sts; split <;> rfl
theorem Og.new {h h1 : H} {S : List Nat} (a : Og h h1 S) (t : TypeId) (l : List AV) : Og h (h1.newCells t l) S := ⟨a.1.new t l, a.2⟩
theorem Og.sts {h h1 : H} {S : List Nat} {b o : Nat} {l : List AV} (a : Og h h1 S) (hb : b ∈ S ∨ h.nx ≤ b) : Og h (h1.sts b o l) S := ⟨a.1.sts hb, (g_sts _ _ _ _).trans a.2⟩
def SaysG (h : H) (r : AV) (v : AV) (h' : H) : Prop := v = r ∧ Og h h' []
def hexD (n : Nat) : Nat := if n < 10 then 48 + n else 87 + n
def hexL (n : Nat) : List Nat := if n < 16 then [hexD n] else hexL (n / 16) ++ [hexD (n % 16)]
termination_by n
decreasing_by omega
theorem hexL_lt {n : Nat} (h : n < 16) : hexL n = [hexD n]:= by rw [hexL, if_pos h]
theorem hexL_ge {n : Nat} (h : ¬ n < 16) : hexL n = hexL (n / 16) ++ [hexD (n % 16)]:= by conv => lhs; rw [hexL, if_neg h]
theorem hexL_len : ∀ (k n : Nat), n < 16 ^ (k + 1) → (hexL n).length ≤ k + 1
 | 0, n, h => by rw [hexL_lt (by simpa using h)]; simp
 | k + 1, n, h => by
  by_cases q : n < 16
  ·rw [hexL_lt q]; simp
  ·rw [hexL_ge q]
   have := hexL_len k (n / 16) (by rw [Nat.pow_succ] at h; omega)
   simp; omega
theorem hexL_pos (n : Nat) : 0 < (hexL n).length := by
 by_cases q : n < 16
 ·rw [hexL_lt q]; simp
 ·rw [hexL_ge q]; simp
def digs : List Nat := [48, 49, 50, 51, 52, 53, 54, 55, 56, 57, 97, 98, 99, 100, 101, 102, 103, 104, 105, 106, 107, 108, 109, 110, 111, 112, 113, 114, 115, 116, 117, 118, 119, 120, 121, 122]
theorem digs_at : ∀ {k : Nat}, k < 16 → digs[k]? = some (hexD k):= by decide
section
variable {h : H} {t : TypeId} {x y : Operand}
theorem b_and (k : IntKind) (m n : Int) : binR P h .and t x y (.int k m) (.int k n) = .val (.int k (wrapF k (.ofNat (Nat.land (low k m) (low k n))))) h:= by simp only [binR, apartA, binA, eqB_self, intB, optV, forceInt_eq]
theorem b_shr (k j : IntKind) (m : Int) (n : Nat) : binR P h .shr t x y (.int k m) (.int j (.ofNat n)) = .val (.int k (m.fdiv (Int.ofNat (2 ^ min n k.bits)))) h:= by simp only [binR, apartA, binA, shiftB, optV, forceInt_eq]
def negR (v : AV) (h : H) : R :=
 match v with
 | .int k n => .val (.int k (wrapF k (0 - n))) h
 | _ => .fail
theorem negR_int (k : IntKind) (n : Int) : negR (.int k n) h = .val (.int k (wrapF k (0 - n))) h := id rfl
theorem ex_neg {tm : T AV} (x : Operand) : execA P tm h (.unOp .neg t x) = ob (evalA tm x) fun v => negR v h := by
 simp only [execA]
 cases evalA tm x with
 | none => rfl
 | some v => cases v <;> first | (simp only [unA, forceInt_eq, optV, ob, negR]; done) | rfl
theorem evalG_glob {tm : T AV} {g : Nat} (hg : g < h.g) : evalG tm h (.global g) = some (.ptr g 0) := by
 have : Nat.blt g h.g = true:= by rw [Nat.blt_eq]; exact hg
 simp only [evalG, this]
end
theorem u64_nat {a : Nat} (hs : a < 18446744073709551616) : wrapF .u64 (Int.ofNat a) = Int.ofNat a := by
 have := u64_add (a := a) (b := 0) (by omega)
 simpa using this
theorem and15 {u : Nat} (hu : u < M64) : wrapF .u64 (.ofNat (Nat.land (low .u64 (.ofNat u)) (low .u64 (.ofNat 15)))) = .ofNat (u % 16) := by
 have h1 : low .u64 (.ofNat u) = u := by
  unfold low
  show (Int.emod (u : Int) ((modF .u64 : Nat) : Int)).toNat = u
  have : ((u : Int)).emod ((modF .u64 : Nat) : Int) = ((u % modF .u64 : Nat) : Int) := rfl
  rw [this, Int.toNat_natCast]; exact Nat.mod_eq_of_lt hu
 have h2 : low .u64 (.ofNat 15) = 15 := rfl
 rw [h1, h2]
 have h3 : Nat.land u 15 = u % 16 := Nat.and_two_pow_sub_one_eq_mod u 4
 rw [h3]
 exact u64_nat (by have : u % 16 < 16 := Nat.mod_lt _ (by omega); omega)
theorem shr4 (u : Nat) : (Int.ofNat u).fdiv (Int.ofNat (2 ^ min 4 IntKind.u64.bits)) = Int.ofNat (u / 16) := by
 have : (2 ^ min 4 IntKind.u64.bits : Nat) = 16 := rfl
 rw [this]; exact (Int.ofNat_fdiv u 16).symm
end
end Go.Proofs.YtllmfnedkhiomaaGreatDoor.S

namespace Go.Proofs.YtllmfnedkhiomaaGreatDoor.S
open Go Go.AX
noncomputable section
set_option maxRecDepth 100000
structure Gl (h : H) : Prop where
 g : 7 < h.g
 c : cellAt h 7 15 = some (.int .u8 (.ofNat 4))
 x : 7 < h.nx
theorem Gl.keep {h h' : H} (a : Gl h) {S : List Nat} (o : Og h h' S) (hS : 7 ∉ S) : Gl h' := ⟨by rw [o.2]; exact a.g, by rw [cellAt_of_get (o.1.2 7 a.x hS)]; exact a.c, Nat.lt_of_lt_of_le a.x o.1.1⟩
theorem u130a : P.underlying 184 = some (.array 64 5):= by kernel_rfl
theorem tzC (h : H) (hg : Gl h) : PushC P (.enter 127 [.int .u64 (.ofNat 16)] h) (SaysG h (.int .i64 (.ofNat 4))) := by
 have e1 : wrapF .u64 (0 - Int.ofNat 16) = .ofNat 18446744073709551600:= by kernel_rfl
 have e2 : wrapF .u64 (.ofNat (Nat.land (low .u64 (.ofNat 16)) (low .u64 (.ofNat 18446744073709551600)))) = .ofNat 16:= by kernel_rfl
 have e3 : wrapF .u64 (Int.ofNat 16 * Int.ofNat 285870213051353865) = .ofNat 4573923408821661840:= by kernel_rfl
 have e4 : (Int.ofNat 4573923408821661840).fdiv (Int.ofNat (2 ^ min 58 IntKind.u64.bits)) = .ofNat 15:= by kernel_rfl
 have eg : ∀ tm : T AV, evalG tm h (.global 7) = some (.ptr 7 0) := fun tm => evalG_glob hg.g
 have hc := hg.c
 have e5 : indexAddrA P 184 (.ptr 7 0) (.int .u64 (.ofNat 15)) = some (.ptr 7 15):= by kernel_rfl
 have e6 : wrapF .i64 (Int.ofNat 4) = .ofNat 4:= by kernel_rfl
 refine pushC_of_codeW (fn := Tryz.f127) (c := bodyC Tryz.f127) Tryz.func127 rfl ?_
 show codeW P 127 14 none _ _ _ _ _
 refine codeW_root ?_
 repeat' (first | ((with_reducible refine st1 ?_); (conv => whnf); (with_reducible refine ⟨?_⟩)) | ((with_reducible refine retW_intro rfl ?_); (conv => arg 2; whnf)) | ((with_reducible first | refine iB ?_ ?_ | refine gWt ?_ ?_ | refine gWf ?_ ?_) <;> intro hb <;> (try simp only [hb])) | (simp only [B, F, reduceLT, reduceLeDiff, reduceEqDiff, reduceAdd, reduceMul, reduceSub, ↓reduceIte, eq_self, @ex_neg, negR_int, @b_and, @b_shr, e1, e2, e3, e4, eg, hc, e5, e6]))
 exact ⟨rfl, Og.refl _ _⟩
theorem tz0C (h : H) (hg : Gl h) : PushC P (.enter 121 [.int .u64 (.ofNat 16)] h) (SaysG h (.int .i64 (.ofNat 4))) := by
 refine pushC_of_codeW (fn := Tryz.f121) (c := bodyC Tryz.f121) Tryz.func121 rfl ?_
 show codeW P 121 8 none _ _ _ _ _
 refine codeW_root ?_
 repeat' (first | ((with_reducible refine st1 ?_); (conv => whnf); (with_reducible refine ⟨?_⟩)) | ((with_reducible refine retW_intro rfl ?_); (conv => arg 2; whnf)) | ((with_reducible first | refine iB ?_ ?_ | refine gWt ?_ ?_ | refine gWf ?_ ?_) <;> intro hb <;> (try simp only [hb])) | (simp only [B, F, reduceLT, reduceLeDiff, reduceEqDiff, reduceAdd, reduceMul, reduceSub, ↓reduceIte, eq_self]))
 refine ((tzC h hg).call P).mono P ?_
 rintro v h1 ⟨rfl, o1⟩
 repeat' (first | ((with_reducible refine st1 ?_); (conv => whnf); (with_reducible refine ⟨?_⟩)) | ((with_reducible refine retW_intro rfl ?_); (conv => arg 2; whnf)) | ((with_reducible first | refine iB ?_ ?_ | refine gWt ?_ ?_ | refine gWf ?_ ?_) <;> intro hb <;> (try simp only [hb])) | (simp only [B, F, reduceLT, reduceLeDiff, reduceEqDiff, reduceAdd, reduceMul, reduceSub, ↓reduceIte, eq_self]))
 exact ⟨rfl, o1⟩
theorem p2C (h : H) : PushC P (.enter 120 [.int .i64 (.ofNat 16)] h) (SaysG h (.bool true)) := by
 have e1 : wrapF .i64 (Int.ofNat 16 - Int.ofNat 1) = .ofNat 15:= by kernel_rfl
 have e2 : wrapF .i64 (.ofNat (Nat.land (low .i64 (.ofNat 16)) (low .i64 (.ofNat 15)))) = .ofNat 0:= by kernel_rfl
 refine pushC_of_codeW (fn := Tryz.f120) (c := bodyC Tryz.f120) Tryz.func120 rfl ?_
 show codeW P 120 8 none _ _ _ _ _
 refine codeW_root ?_
 repeat' (first | ((with_reducible refine st1 ?_); (conv => whnf); (with_reducible refine ⟨?_⟩)) | ((with_reducible refine retW_intro rfl ?_); (conv => arg 2; whnf)) | ((with_reducible first | refine iB ?_ ?_ | refine gWt ?_ ?_ | refine gWf ?_ ?_) <;> intro hb <;> (try simp only [hb])) | (simp only [B, F, reduceLT, reduceLeDiff, reduceEqDiff, reduceAdd, reduceMul, reduceSub, ↓reduceIte, eq_self, @b_and, e1, e2]))
 exact ⟨rfl, Og.refl _ _⟩
theorem dgb : bytesOf { data := #[48, 49, 50, 51, 52, 53, 54, 55, 56, 57, 97, 98, 99, 100, 101, 102, 103, 104, 105, 106, 107, 108, 109, 110, 111, 112, 113, 114, 115, 116, 117, 118, 119, 120, 121, 122] } = digs := rfl
theorem u9a : P.underlying 9 = some .string:= by kernel_rfl
theorem ixd {k : Nat} (hk : k < 16) (kd : IntKind) : indexA P 9 (.str digs) (.int kd (.ofNat k)) = some (.int .u8 (.ofNat (hexD k))) := by
 simp only [indexA, u9a, digs_at hk]
theorem u121a : P.underlying 177 = some (.array 65 5):= by kernel_rfl
theorem co5 : P.cellsOf 5 = 1:= by kernel_rfl
theorem ia121 (b : Nat) (kd : IntKind) (i : Nat) (hi : i < 65) : indexAddrA P 177 (.ptr b 0) (.int kd (.ofNat i)) = some (.ptr b i) := by
 have hb : Nat.blt i 65 = true:= by rw [Nat.blt_eq]; exact hi
 unfold indexAddrA
 simp only [u121a, hb, show okT P 5 = true from ok5, co5, Bool.true_and, Nat.zero_add, Nat.mul_one]
theorem kc {h h' : H} {S : List Nat} {b i : Nat} {v : AV} (c : cellAt h b i = some v) (o : Og h h' S) (hb : b < h.nx) (hn : b ∉ S) : cellAt h' b i = some v:= by rw [cellAt_of_get (o.1.2 b hb hn)]; exact c
theorem kw {h h' : H} {S : List Nat} {b : Nat} (c : wrAt h b = true) (o : Og h h' S) (hb : b < h.nx) (hn : b ∉ S) : wrAt h' b = true:= by rw [wrAt_of_get (o.1.2 b hb hn)]; exact c
theorem hexD_lt {n : Nat} (h : n < 16) : hexD n < 256:= by unfold hexD; split <;> omega
theorem hexL_byte : ∀ (k n : Nat), n < 16 ^ (k + 1) → ∀ c, c ∈ hexL n → c < 256
 | 0, n, h, c, hc => by
  rw [hexL_lt (by simpa using h), List.mem_singleton] at hc
  subst hc; exact hexD_lt (by simpa using h)
 | k + 1, n, h, c, hc => by
  by_cases q : n < 16
  ·rw [hexL_lt q, List.mem_singleton] at hc
   subst hc; exact hexD_lt q
  ·rw [hexL_ge q, List.mem_append, List.mem_singleton] at hc
   rcases hc with hc | hc
   ·exact hexL_byte k (n / 16) (by rw [Nat.pow_succ] at h; omega) c hc
   ·subst hc; exact hexD_lt (Nat.mod_lt _ (by omega))
theorem all_bytes : ∀ {l : List Nat}, (∀ c, c ∈ l → c < 256) → bytesA (l.map fun c => .int .u8 (.ofNat c)) = some l := by
 intro l hl
 have h1 : ∀ l : List Nat, (∀ c, c ∈ l → c < 256) → allByte (l.map fun c => AV.int .u8 (.ofNat c)) = true ∧ (l.map fun c => AV.int .u8 (.ofNat c)).map AX.byteOf = l := by
  intro l
  induction l with
  | nil => intro _; exact ⟨rfl, rfl⟩
  | cons a l ih =>
   intro hl
   obtain ⟨i1, i2⟩ := ih (fun c hc => hl c (List.mem_cons_of_mem _ hc))
   have ha := hl a (by simp)
   refine ⟨?_, ?_⟩
   ·have hb : isByte (AV.int .u8 (.ofNat a)) = true := rfl
    show (match isByte (AV.int .u8 (.ofNat a)) with | true => allByte (l.map fun c => AV.int .u8 (.ofNat c)) | false => false) = true
    rw [hb]; exact i1
   ·rw [List.map_cons, List.map_cons, i2]
    show (a % 256) :: l = a :: l
    rw [Nat.mod_eq_of_lt ha]
 unfold bytesA
 rw [(h1 l hl).1]
 simp only [(h1 l hl).2]
theorem u75a : P.underlying 37 = some (.slice 5):= by kernel_rfl
theorem conv_bytes {h : H} {b o n : Nat} {cap : Cap} {l : List Nat} (hl : l.length = n) (h0 : l ≠ []) (hc : ∀ j, j < l.length → cellAt h b (o + j) = (l[j]?).map fun c => .int .u8 (.ofNat c)) (hb : ∀ c, c ∈ l → c < 256) : convR P 37 9 (.slice b o n cap) h = .val (.str l) h := by
 have hr : h.row b o n = some (l.map fun c => .int .u8 (.ofNat c)) := by
  have := row_ok (h := h) (b := b) (o := o) (cs := l.map fun c => .int .u8 (.ofNat c)) (fun j hj => by rw [hc j (by simpa using hj), List.getElem?_map]) (by simpa using h0)
  rwa [List.length_map, hl] at this
 unfold convR
 simp only [u75a, u9a]
 unfold convertA
 have u5a : P.underlying 5 = some (.int .u8):= by kernel_rfl
 simp only [u75a, u9a, u5a, hr, all_bytes hb]
structure FbI (h0 : H) (b n : Nat) (m : Nat) (ds : List Nat) (tm : T AV) (h : H) (u i : Nat) (suf : List Nat) : Prop where
 ds : ds = []
 nn : m = u
 le : u < M64
 ii : i ≤ 65 ∧ (hexL u).length ≤ i
 hs : hexL n = hexL u ++ suf
 ls : suf.length = 65 - i
 t1 : tm.get 1 = some (.int .u64 (.ofNat u))
 t3 : tm.get 3 = some (.bool false)
 t4 : tm.get 4 = some (.bool false)
 t12 : tm.get 12 = some (.ptr b 0)
 t13 : tm.get 13 = some (.int .i64 (.ofNat i))
 t14 : tm.get 14 = some (.int .u64 (.ofNat 4))
 t15 : tm.get 15 = some (.int .u64 (.ofNat 16))
 t16 : tm.get 16 = some (.int .u64 (.ofNat 15))
 t10 : tm.get 10 = some .nilslice
 oo : Og h0 h [b]
 wr : wrAt h b = true
 c0 : ∀ j, j < 65 → ∃ v, cellAt h b j = some v
 cs : ∀ j, j < suf.length → cellAt h b (i + j) = (suf[j]?).map fun c => .int .u8 (.ofNat c)
theorem fbC (h : H) (hg : Gl h) (n : Nat) (hn : n < M64) : PushC P (.enter 106 [.nilslice, .int .u64 (.ofNat n), .int .i64 (.ofNat 16), .bool false, .bool false] h) fun v h' => Og h h' [] ∧ v = .tuple [.nilslice, .str (hexL n)] := by
 have w1 : wrapF .u64 (Int.ofNat 4) = .ofNat 4:= by kernel_rfl
 have w2 : wrapF .u64 (Int.ofNat 16) = .ofNat 16:= by kernel_rfl
 have w3 : wrapF .u64 (Int.ofNat 16 - Int.ofNat 1) = .ofNat 15:= by kernel_rfl
 refine pushC_of_codeW (fn := Tryz.f106) (c := bodyC Tryz.f106) Tryz.func106 rfl ?_
 show codeW P 106 102 none _ _ _ _ _
 refine codeW_root ?_
 repeat' (first | ((with_reducible refine st1 ?_); (conv => whnf); (with_reducible refine ⟨?_⟩)) | ((with_reducible refine retW_intro rfl ?_); (conv => arg 2; whnf)) | ((with_reducible first | refine iB ?_ ?_ | refine gWt ?_ ?_ | refine gWf ?_ ?_) <;> intro hb <;> (try simp only [hb])) | (simp only [B, F, reduceLT, reduceLeDiff, reduceEqDiff, reduceAdd, reduceMul, reduceSub, ↓reduceIte, eq_self]))
 refine ((p2C _).call P).mono P ?_
 rintro v h1 ⟨rfl, o1⟩
 have oo : Og h h1 [] := ((Og.refl h []).new _ _).t o1
 have wr1 := kw (b := h.nx) (by rw [wrAt_new, if_pos rfl]) o1 (by rw [nx_new]; omega) (by simp)
 have x1 := o1.1.1
 rw [nx_new] at x1
 have c1 : ∀ j, j < 65 → ∃ v, cellAt h1 h.nx j = some v := fun j hj => by
  obtain ⟨v, hv⟩ : ∃ v, (List.replicate 65 (AV.int .u8 (.ofNat 0)))[j]? = some v := ⟨_, List.getElem?_eq_getElem (by simpa using hj)⟩
  exact ⟨v, kc (by rw [cellAt_new, if_pos rfl]; exact hv) o1 (by rw [nx_new]; omega) (by simp)⟩
 clear o1
 repeat' (first | ((with_reducible refine st1 ?_); (conv => whnf); (with_reducible refine ⟨?_⟩)) | ((with_reducible refine retW_intro rfl ?_); (conv => arg 2; whnf)) | ((with_reducible first | refine iB ?_ ?_ | refine gWt ?_ ?_ | refine gWf ?_ ?_) <;> intro hb <;> (try simp only [hb])) | (simp only [B, F, reduceLT, reduceLeDiff, reduceEqDiff, reduceAdd, reduceMul, reduceSub, ↓reduceIte, eq_self, w1, w2, w3]))
 refine ((tz0C h1 (hg.keep oo (by simp))).call P).mono P ?_
 rintro v h2 ⟨rfl, o2⟩
 have x2 := o2.1.1
 have wr2 := kw wr1 o2 (by omega) (by simp)
 have c2 : ∀ j, j < 65 → ∃ v, cellAt h2 h.nx j = some v := fun j hj => by
  obtain ⟨v, hv⟩ := c1 j hj
  exact ⟨v, kc hv o2 (by omega) (by simp)⟩
 have h16 : (16 : Nat) ^ 16 = M64:= by decide
 have hl16 : ∀ u, u < M64 → (hexL u).length ≤ 16 := fun u hu => hexL_len 15 u (by rw [h16]; exact hu)
 repeat' (first | ((with_reducible refine st1 ?_); (conv => whnf); (with_reducible refine ⟨?_⟩)) | ((with_reducible refine retW_intro rfl ?_); (conv => arg 2; whnf)) | ((with_reducible first | refine iB ?_ ?_ | refine gWt ?_ ?_ | refine gWf ?_ ?_) <;> intro hb <;> (try simp only [hb])) | (simp only [B, F, reduceLT, reduceLeDiff, reduceEqDiff, reduceAdd, reduceMul, reduceSub, ↓reduceIte, eq_self, w1, w2, w3]))
 refine st_loop (fun m ds tm h' => ∃ u i suf, FbI h2 h.nx n m ds tm h' u i suf) n rfl ⟨n, 65, [], rfl, rfl, hn, ⟨Nat.le_refl _, by have := hl16 n hn; omega⟩, by simp, rfl, by simp only [B, F, reduceLT, reduceLeDiff, reduceEqDiff, reduceAdd, reduceMul, reduceSub, ↓reduceIte, eq_self], by simp only [B, F, reduceLT, reduceLeDiff, reduceEqDiff, reduceAdd, reduceMul, reduceSub, ↓reduceIte, eq_self], by simp only [B, F, reduceLT, reduceLeDiff, reduceEqDiff, reduceAdd, reduceMul, reduceSub, ↓reduceIte, eq_self], by simp only [B, F, reduceLT, reduceLeDiff, reduceEqDiff, reduceAdd, reduceMul, reduceSub, ↓reduceIte, eq_self], by simp only [B, F, reduceLT, reduceLeDiff, reduceEqDiff, reduceAdd, reduceMul, reduceSub, ↓reduceIte, eq_self], by simp only [B, F, reduceLT, reduceLeDiff, reduceEqDiff, reduceAdd, reduceMul, reduceSub, ↓reduceIte, eq_self], by simp only [B, F, reduceLT, reduceLeDiff, reduceEqDiff, reduceAdd, reduceMul, reduceSub, ↓reduceIte, eq_self], by simp only [B, F, reduceLT, reduceLeDiff, reduceEqDiff, reduceAdd, reduceMul, reduceSub, ↓reduceIte, eq_self], by simp only [B, F, reduceLT, reduceLeDiff, reduceEqDiff, reduceAdd, reduceMul, reduceSub, ↓reduceIte, eq_self], Og.refl _ _, wr2, c2, fun j hj => by cases hj⟩ (fun m ds tm h3 hI => ?_)
 obtain ⟨u, i, suf, rfl, rfl, hu, ⟨i1, i2⟩, hs, ls, t1, t3, t4, t12, t13, t14, t15, t16, t10, o3, wr3, c3, cs⟩ := hI
 have x3 := o3.1.1
 have hip := hexL_pos m
 have wi : wrapF .i64 (Int.ofNat i - Int.ofNat 1) = .ofNat (i - 1) := i64_sub (by omega) (by omega)
 have ia := ia121 h.nx .i64 (i - 1) (by omega)
 obtain ⟨vo, hvo⟩ := c3 (i - 1) (by omega)
 by_cases hu16 : 16 ≤ m
 ·have d1 : decide (16 ≤ m) = true := decide_eq_true hu16
  have ix := ixd (k := m % 16) (Nat.mod_lt _ (by omega)) .u64
  have an := and15 hu
  have sh := shr4 m
  obtain ⟨h4, h4e⟩ : ∃ h4, h4 = h3.sts h.nx (i - 1) [.int .u8 (.ofNat (hexD (m % 16)))] := ⟨_, rfl⟩
  repeat' (first | ((with_reducible refine st1 ?_); (conv => whnf); (with_reducible refine ⟨?_⟩)) | ((with_reducible refine retW_intro rfl ?_); (conv => arg 2; whnf)) | ((with_reducible first | refine iB ?_ ?_ | refine gWt ?_ ?_ | refine gWf ?_ ?_) <;> intro hb <;> (try simp only [hb])) | (simp only [B, F, reduceLT, reduceLeDiff, reduceEqDiff, reduceAdd, reduceMul, reduceSub, ↓reduceIte, eq_self, t1, t12, t13, t14, t15, t16, d1, wi, dgb, @b_and, an, ix, ia, put_sts, wr3, hvo, @b_shr, sh, ← h4e]))
  have hge := hexL_ge (n := m) (by omega)
  have hlm : (hexL m).length = (hexL (m / 16)).length + 1:= by rw [hge]; simp
  have hca : ∀ j, cellAt h4 h.nx j = if j = i - 1 then some (.int .u8 (.ofNat (hexD (m % 16)))) else cellAt h3 h.nx j := fun j => by
   rw [h4e, cellAt_sts wr3]
   by_cases q : j = i - 1
   ·rw [if_pos ⟨rfl, by omega, by simp; omega⟩, if_pos q, q, Nat.sub_self]; rfl
   ·rw [if_neg (by simp; omega), if_neg q]
  refine ⟨m / 16, by omega, m / 16, i - 1, hexD (m % 16) :: suf, rfl, rfl, by omega, ⟨by omega, by omega⟩, by rw [hs, hge, List.append_assoc]; rfl, by rw [List.length_cons, ls]; omega, by simp only [B, F, reduceLT, reduceLeDiff, reduceEqDiff, reduceAdd, reduceMul, reduceSub, ↓reduceIte, eq_self], by simp only [B, F, reduceLT, reduceLeDiff, reduceEqDiff, reduceAdd, reduceMul, reduceSub, ↓reduceIte, eq_self, t3], by simp only [B, F, reduceLT, reduceLeDiff, reduceEqDiff, reduceAdd, reduceMul, reduceSub, ↓reduceIte, eq_self, t4], by simp only [B, F, reduceLT, reduceLeDiff, reduceEqDiff, reduceAdd, reduceMul, reduceSub, ↓reduceIte, eq_self, t12], by simp only [B, F, reduceLT, reduceLeDiff, reduceEqDiff, reduceAdd, reduceMul, reduceSub, ↓reduceIte, eq_self], by simp only [B, F, reduceLT, reduceLeDiff, reduceEqDiff, reduceAdd, reduceMul, reduceSub, ↓reduceIte, eq_self, t14], by simp only [B, F, reduceLT, reduceLeDiff, reduceEqDiff, reduceAdd, reduceMul, reduceSub, ↓reduceIte, eq_self, t15], by simp only [B, F, reduceLT, reduceLeDiff, reduceEqDiff, reduceAdd, reduceMul, reduceSub, ↓reduceIte, eq_self, t16], by simp only [B, F, reduceLT, reduceLeDiff, reduceEqDiff, reduceAdd, reduceMul, reduceSub, ↓reduceIte, eq_self, t10], by rw [h4e]; exact o3.sts (.inl (by simp)), by rw [h4e, wrAt_sts]; exact wr3, fun j hj => ?_, fun j hj => ?_⟩
  ·rw [hca]
   split
   ·exact ⟨_, rfl⟩
   ·exact c3 j hj
  ·rw [hca]
   cases j with
   | zero => rw [Nat.add_zero, if_pos rfl]; rfl
   | succ j =>
    rw [if_neg (by omega), List.getElem?_cons_succ, show i - 1 + (j + 1) = i + j by omega]
    exact cs j (by simpa using hj)
 ·have d1 : decide (16 ≤ m) = false := decide_eq_false hu16
  have ix := ixd (k := m) (by omega) .u64
  have hlt := hexL_lt (n := m) (by omega)
  obtain ⟨h4, h4e⟩ : ∃ h4, h4 = h3.sts h.nx (i - 1) [.int .u8 (.ofNat (hexD m))] := ⟨_, rfl⟩
  have hca : ∀ j, cellAt h4 h.nx j = if j = i - 1 then some (.int .u8 (.ofNat (hexD m))) else cellAt h3 h.nx j := fun j => by
   rw [h4e, cellAt_sts wr3]
   by_cases q : j = i - 1
   ·rw [if_pos ⟨rfl, by omega, by simp; omega⟩, if_pos q, q, Nat.sub_self]; rfl
   ·rw [if_neg (by simp; omega), if_neg q]
  have hfull : hexL n = hexD m :: suf:= by rw [hs, hlt]; rfl
  have hlen : (hexL n).length = 65 - (i - 1):= by rw [hfull, List.length_cons, ls]; omega
  have cv := conv_bytes (h := h4) (b := h.nx) (o := 0 + (i - 1) * 1) (n := 65 - (i - 1)) (cap := .exact (65 - (i - 1))) (l := hexL n) hlen (by rw [hfull]; simp) (fun j hj => by
   rw [hca, Nat.zero_add, Nat.mul_one, hfull]
   cases j with
   | zero => rw [Nat.add_zero, if_pos rfl]; rfl
   | succ j =>
    rw [if_neg (by omega), List.getElem?_cons_succ, show i - 1 + (j + 1) = i + j by omega]
    exact cs j (by rw [hlen] at hj; omega)) (hexL_byte 15 n (by rw [h16]; exact hn))
  rw [Nat.zero_add] at cv
  have hsl : sliceA P 177 (.ptr h.nx 0) (some (.int .i64 (.ofNat (i - 1)))) none none = some (.slice h.nx (0 + (i - 1) * 1) (65 - (i - 1)) (.exact (65 - (i - 1)))) := by
   have hb : Nat.ble (i - 1) 65 = true:= by rw [Nat.ble_eq]; omega
   have hq : Nat.beq 65 (i - 1) = false := by
    cases q : Nat.beq 65 (i - 1) with
    | false => rfl
    | true => have := Nat.eq_of_beq_eq_true q; omega
   simp only [sliceA, u121a, show okT P 5 = true from ok5, sliceEx, bndO, bnd, hb, hq, co5, Option.isSome, Bool.false_and]
  repeat' (first | ((with_reducible refine st1 ?_); (conv => whnf); (with_reducible refine ⟨?_⟩)) | ((with_reducible refine retW_intro rfl ?_); (conv => arg 2; whnf)) | ((with_reducible first | refine iB ?_ ?_ | refine gWt ?_ ?_ | refine gWf ?_ ?_) <;> intro hb <;> (try simp only [hb])) | (simp only [B, F, reduceLT, reduceLeDiff, reduceEqDiff, reduceAdd, reduceMul, reduceSub, ↓reduceIte, eq_self, t1, t3, t4, t10, t12, t13, t14, t15, t16, d1, wi, dgb, ix, ia, put_sts, wr3, hvo, ← h4e, @ex_sl_l, hsl, cv]))
  refine ⟨⟨by rw [h4e, nx_sts]; omega, fun c hc _ => ?_⟩, by rw [h4e, g_sts, o3.2, o2.2, oo.2]⟩
  rw [h4e, get_sts _ _ _ _ (by omega), o3.1.2 c (by omega) (by simp; omega), o2.1.2 c (by omega) (by simp), oo.1.2 c hc (by simp)]
end
end Go.Proofs.YtllmfnedkhiomaaGreatDoor.S

namespace Go.Proofs.YtllmfnedkhiomaaGreatDoor.S
open Go Go.AX
noncomputable section
set_option maxRecDepth 100000
theorem rep_0 : groundAt P noHook 20000 62 [.str [48], .int .i64 (.ofNat 0)] = some (.str []):= by kernel_rfl
theorem rep_1 : groundAt P noHook 20000 62 [.str [48], .int .i64 (.ofNat 1)] = some (.str [48]):= by kernel_rfl
theorem rep_2 : groundAt P noHook 20000 62 [.str [48], .int .i64 (.ofNat 2)] = some (.str [48, 48]):= by kernel_rfl
theorem rep_3 : groundAt P noHook 20000 62 [.str [48], .int .i64 (.ofNat 3)] = some (.str [48, 48, 48]):= by kernel_rfl
theorem rep_4 : groundAt P noHook 20000 62 [.str [48], .int .i64 (.ofNat 4)] = some (.str [48, 48, 48, 48]):= by kernel_rfl
theorem rep_5 : groundAt P noHook 20000 62 [.str [48], .int .i64 (.ofNat 5)] = some (.str [48, 48, 48, 48, 48]):= by kernel_rfl
theorem rep_6 : groundAt P noHook 20000 62 [.str [48], .int .i64 (.ofNat 6)] = some (.str [48, 48, 48, 48, 48, 48]):= by kernel_rfl
theorem rep_7 : groundAt P noHook 20000 62 [.str [48], .int .i64 (.ofNat 7)] = some (.str [48, 48, 48, 48, 48, 48, 48]):= by kernel_rfl
theorem rep_8 : groundAt P noHook 20000 62 [.str [48], .int .i64 (.ofNat 8)] = some (.str [48, 48, 48, 48, 48, 48, 48, 48]):= by kernel_rfl
theorem rep_9 : groundAt P noHook 20000 62 [.str [48], .int .i64 (.ofNat 9)] = some (.str [48, 48, 48, 48, 48, 48, 48, 48, 48]):= by kernel_rfl
theorem rep_10 : groundAt P noHook 20000 62 [.str [48], .int .i64 (.ofNat 10)] = some (.str [48, 48, 48, 48, 48, 48, 48, 48, 48, 48]):= by kernel_rfl
theorem rep_11 : groundAt P noHook 20000 62 [.str [48], .int .i64 (.ofNat 11)] = some (.str [48, 48, 48, 48, 48, 48, 48, 48, 48, 48, 48]):= by kernel_rfl
theorem rep_12 : groundAt P noHook 20000 62 [.str [48], .int .i64 (.ofNat 12)] = some (.str [48, 48, 48, 48, 48, 48, 48, 48, 48, 48, 48, 48]):= by kernel_rfl
theorem rep0 : ∀ k, k < 13 → groundAt P noHook 20000 62 [.str [48], .int .i64 (.ofNat k)] = some (.str (List.replicate k 48))
 | 0, _ => rep_0
 | 1, _ => rep_1
 | 2, _ => rep_2
 | 3, _ => rep_3
 | 4, _ => rep_4
 | 5, _ => rep_5
 | 6, _ => rep_6
 | 7, _ => rep_7
 | 8, _ => rep_8
 | 9, _ => rep_9
 | 10, _ => rep_10
 | 11, _ => rep_11
 | 12, _ => rep_12
 | k + 13, h => by omega
theorem callC_closedA {f : FuncId} {args : List AV} {v : AV} {n : Nat} (hg : groundAt P noHook n f args = some v) {h : H} {Q : AV → H → Prop} (hq : Q v h) : CallC P (.enter f args h) Q := by
 refine CallC.of_hook P (groundHook_ok (noHook_ok P) n [f]) (v := v) (h' := h) ?_ hq
 show (match memB f [f] with | true => _ | false => _) = _
 have : memB f [f] = true:= by simp [memB]
 rw [this, hg]
theorem b_addS {a b : List Nat} (hl : a.length + b.length ≤ 1000000) (h : H) (t : TypeId) (x y : Operand) : binR P h .add t x y (.str a) (.str b) = .val (.str (a ++ b)) h := by
 have : Nat.ble (a.length + b.length) 1099511627776 = true:= by rw [Nat.ble_eq]; omega
 simp only [binR, apartA, binA, strB, lenL_eq, this, optV]
theorem i64_dif {a b : Nat} (ha : a < 4294967296) (hb : b < 4294967296) : wrapF .i64 (Int.ofNat a - Int.ofNat b) = Int.ofNat a - Int.ofNat b := by
 rcases Nat.lt_or_ge a b with q | q
 ·have e : Int.emod (Int.ofNat a - Int.ofNat b) 18446744073709551616 = Int.ofNat a - Int.ofNat b + 18446744073709551616 := by
   show ((a : Int) - (b : Int)) % 18446744073709551616 = (a : Int) - (b : Int) + 18446744073709551616
   omega
  simp only [wrapF, e]
  have hn : ¬ (Int.ofNat a - Int.ofNat b + 18446744073709551616 < 9223372036854775808) := by
   show ¬ ((a : Int) - (b : Int) + 18446744073709551616 < 9223372036854775808)
   omega
  rw [if_neg hn]
  show (a : Int) - (b : Int) + 18446744073709551616 - 18446744073709551616 = (a : Int) - (b : Int)
  omega
 ·rw [i64_sub q (by omega)]
  show ((a - b : Nat) : Int) = (a : Int) - (b : Int)
  omega
theorem repC (h : H) {k : Nat} (hk : k < 13) {Q : AV → H → Prop} (hq : Q (.str (List.replicate k 48)) h) : CallC P (.enter 62 [.str [48], .int .i64 (.ofNat k)] h) Q := callC_closedA (rep0 k hk) hq
theorem fuC (h : H) (hg : Gl h) (n : Nat) (hn : n < M64) : PushC P (.enter 84 [.int .u64 (.ofNat n), .int .i64 (.ofNat 16)] h) (SaysG h (.str (hexL n))) := by
 refine pushC_of_codeW (fn := Tryz.f84) (c := bodyC Tryz.f84) Tryz.func84 rfl ?_
 show codeW P 84 32 none _ _ _ _ _
 refine codeW_root ?_
 repeat' (first | ((with_reducible refine st1 ?_); (conv => whnf); (with_reducible refine ⟨?_⟩)) | ((with_reducible refine retW_intro rfl ?_); (conv => arg 2; whnf)) | ((with_reducible first | refine iB ?_ ?_ | refine gWt ?_ ?_ | refine gWf ?_ ?_) <;> intro hb <;> (try simp only [hb])) | (simp only [B, F, reduceLT, reduceLeDiff, reduceEqDiff, reduceAdd, reduceMul, reduceSub, ↓reduceIte, eq_self]))
 refine ((fbC h hg n hn).call P).mono P ?_
 rintro v h1 ⟨o1, rfl⟩
 repeat' (first | ((with_reducible refine st1 ?_); (conv => whnf); (with_reducible refine ⟨?_⟩)) | ((with_reducible refine retW_intro rfl ?_); (conv => arg 2; whnf)) | ((with_reducible first | refine iB ?_ ?_ | refine gWt ?_ ?_ | refine gWf ?_ ?_) <;> intro hb <;> (try simp only [hb])) | (simp only [B, F, reduceLT, reduceLeDiff, reduceEqDiff, reduceAdd, reduceMul, reduceSub, ↓reduceIte, eq_self]))
 exact ⟨rfl, o1⟩
theorem fu0C (h : H) (hg : Gl h) (n : Nat) (hn : n < M64) : PushC P (.enter 61 [.int .u64 (.ofNat n), .int .i64 (.ofNat 16)] h) (SaysG h (.str (hexL n))) := by
 refine pushC_of_codeW (fn := Tryz.f61) (c := bodyC Tryz.f61) Tryz.func61 rfl ?_
 show codeW P 61 8 none _ _ _ _ _
 refine codeW_root ?_
 repeat' (first | ((with_reducible refine st1 ?_); (conv => whnf); (with_reducible refine ⟨?_⟩)) | ((with_reducible refine retW_intro rfl ?_); (conv => arg 2; whnf)) | ((with_reducible first | refine iB ?_ ?_ | refine gWt ?_ ?_ | refine gWf ?_ ?_) <;> intro hb <;> (try simp only [hb])) | (simp only [B, F, reduceLT, reduceLeDiff, reduceEqDiff, reduceAdd, reduceMul, reduceSub, ↓reduceIte, eq_self]))
 refine ((fuC h hg n hn).call P).mono P ?_
 rintro v h1 ⟨rfl, o1⟩
 repeat' (first | ((with_reducible refine st1 ?_); (conv => whnf); (with_reducible refine ⟨?_⟩)) | ((with_reducible refine retW_intro rfl ?_); (conv => arg 2; whnf)) | ((with_reducible first | refine iB ?_ ?_ | refine gWt ?_ ?_ | refine gWf ?_ ?_) <;> intro hb <;> (try simp only [hb])) | (simp only [B, F, reduceLT, reduceLeDiff, reduceEqDiff, reduceAdd, reduceMul, reduceSub, ↓reduceIte, eq_self]))
 exact ⟨rfl, o1⟩
def hexP (n d : Nat) : List Nat := List.replicate (d - (hexL n).length) 48 ++ hexL n
theorem hexP_len {n d : Nat} (h : (hexL n).length ≤ d) : (hexP n d).length = d:= by unfold hexP; simp; omega
theorem hexC (h : H) (hg : Gl h) (n d : Nat) (hn : n < M64) (hd : d < 13) : PushC P (.enter 41 [.int .u64 (.ofNat n), .int .i64 (.ofNat d)] h) (SaysG h (.str (hexP n d))) := by
 have h16 : (16 : Nat) ^ 16 = M64:= by decide
 have hl : (hexL n).length ≤ 16 := hexL_len 15 n (by rw [h16]; exact hn)
 have b48 : bytesOf { data := #[48] } = [48] := rfl
 have w : wrapF .i64 (Int.ofNat d - Int.ofNat (hexL n).length) = Int.ofNat d - Int.ofNat (hexL n).length := i64_dif (by omega) (by omega)
 have mx : (if Int.ofNat d - Int.ofNat (hexL n).length < Int.ofNat 0 then Int.ofNat 0 else Int.ofNat d - Int.ofNat (hexL n).length) = Int.ofNat (d - (hexL n).length) := by
  have : ∀ a b : Nat, (if ((a : Int) - (b : Int)) < ((0 : Nat) : Int) then ((0 : Nat) : Int) else (a : Int) - (b : Int)) = ((a - b : Nat) : Int) := fun a b => by split <;> omega
  exact this d _
 have ad := fun h t x y => b_addS (a := List.replicate (d - (hexL n).length) 48) (b := hexL n) (by simp; omega) h t x y
 refine pushC_of_codeW (fn := Tryz.f41) (c := bodyC Tryz.f41) Tryz.func41 rfl ?_
 show codeW P 41 16 none _ _ _ _ _
 refine codeW_root ?_
 repeat' (first | ((with_reducible refine st1 ?_); (conv => whnf); (with_reducible refine ⟨?_⟩)) | ((with_reducible refine retW_intro rfl ?_); (conv => arg 2; whnf)) | ((with_reducible first | refine iB ?_ ?_ | refine gWt ?_ ?_ | refine gWf ?_ ?_) <;> intro hb <;> (try simp only [hb])) | (simp only [B, F, reduceLT, reduceLeDiff, reduceEqDiff, reduceAdd, reduceMul, reduceSub, ↓reduceIte, eq_self]))
 refine ((fu0C h hg n hn).call P).mono P ?_
 rintro v h1 ⟨rfl, o1⟩
 repeat' (first | ((with_reducible refine st1 ?_); (conv => whnf); (with_reducible refine ⟨?_⟩)) | ((with_reducible refine retW_intro rfl ?_); (conv => arg 2; whnf)) | ((with_reducible first | refine iB ?_ ?_ | refine gWt ?_ ?_ | refine gWf ?_ ?_) <;> intro hb <;> (try simp only [hb])) | (simp only [B, F, reduceLT, reduceLeDiff, reduceEqDiff, reduceAdd, reduceMul, reduceSub, ↓reduceIte, eq_self, b48, w, mx]))
 refine repC h1 (by omega) ?_
 repeat' (first | ((with_reducible refine st1 ?_); (conv => whnf); (with_reducible refine ⟨?_⟩)) | ((with_reducible refine retW_intro rfl ?_); (conv => arg 2; whnf)) | ((with_reducible first | refine iB ?_ ?_ | refine gWt ?_ ?_ | refine gWf ?_ ?_) <;> intro hb <;> (try simp only [hb])) | (simp only [B, F, reduceLT, reduceLeDiff, reduceEqDiff, reduceAdd, reduceMul, reduceSub, ↓reduceIte, eq_self, ad]))
 exact ⟨rfl, o1⟩
end
end Go.Proofs.YtllmfnedkhiomaaGreatDoor.S

namespace Go.Proofs.YtllmfnedkhiomaaGreatDoor.S
open Go Go.AX
noncomputable section
set_option maxRecDepth 100000
def b256 (n : Nat) : List Nat := if h : n = 0 then [] else b256 (n / 256) ++ [n % 256]
termination_by n
decreasing_by omega
theorem b256_0 : b256 0 = []:= by rw [b256]; simp
theorem b256_s {n : Nat} (h : n ≠ 0) : b256 n = b256 (n / 256) ++ [n % 256]:= by conv => lhs; rw [b256, dif_neg h]
theorem b256_len : ∀ (k n : Nat), n < 256 ^ k → (b256 n).length ≤ k
  | 0, n, h => by have : n = 0:= by simpa using h
                  rw [this, b256_0]; simp
  | k + 1, n, h => by
    by_cases q : n = 0
    · rw [q, b256_0]; simp
    · rw [b256_s q]
      have := b256_len k (n / 256) (by rw [Nat.pow_succ] at h; omega)
      simp; omega
theorem b256_byte (n : Nat) : ∀ c, c ∈ b256 n → c < 256 := by
 induction n using Nat.strongRecOn with
 | ind n ih =>
  by_cases q : n = 0
  ·rw [q, b256_0]; simp
  ·rw [b256_s q]
   intro c hc
   rcases List.mem_append.1 hc with h | h
   ·exact ih (n / 256) (by omega) c h
   ·rw [List.mem_singleton] at h; omega
def encN (n : Nat) : List Nat := if n < 248 then [n] else (247 + (b256 n).length) :: b256 n
theorem encN_len {n : Nat} (h : n < M64) : (encN n).length ≤ 9 := by
 unfold encN
 split
 ·simp
 ·have := b256_len 8 n h
  simp; omega
theorem encN_byte {n : Nat} (h : n < M64) : ∀ c, c ∈ encN n → c < 256 := by
 unfold encN
 have := b256_len 8 n h
 split
 ·intro c hc; rw [List.mem_singleton] at hc; omega
 ·intro c hc
  rcases List.mem_cons.1 hc with q | q
  ·omega
  ·exact b256_byte n c q
theorem u80a : P.underlying 132 = some (.array 9 5):= by kernel_rfl
theorem ia80 (b : Nat) (kd : IntKind) (i : Nat) (hi : i < 9) : indexAddrA P 132 (.ptr b 0) (.int kd (.ofNat i)) = some (.ptr b i) := by
 have hb : Nat.blt i 9 = true:= by rw [Nat.blt_eq]; exact hi
 unfold indexAddrA
 simp only [u80a, hb, show okT P 5 = true from ok5, co5, Bool.true_and, Nat.zero_add, Nat.mul_one]
theorem shr8 (u : Nat) : (Int.ofNat u).fdiv (Int.ofNat (2 ^ min 8 IntKind.u64.bits)) = Int.ofNat (u / 256) := by
 have : (2 ^ min 8 IntKind.u64.bits : Nat) = 256 := rfl
 rw [this]; exact (Int.ofNat_fdiv u 256).symm
theorem u8_mod (n : Nat) : wrapF .u8 (Int.ofNat n) = Int.ofNat (n % 256) := by
 show ((n : Int)) % 256 = ((n % 256 : Nat) : Int)
 omega
structure PuI (hx : H) (b n : Nat) (s : List Nat) (sb : Nat) (cap : Cap) (m : Nat) (ds : List Nat) (tm : T AV) (h : H) (i : Nat) (suf : List Nat) : Prop where
 ds : ds = []
 le : m < M64
 hs : b256 n = b256 m ++ suf
 ls : suf.length + i = 9
 hl : (b256 m).length + 1 ≤ i
 t0 : tm.get 0 = some (.str s)
 t6 : tm.get 6 = some (.int .u64 (.ofNat m))
 t7 : tm.get 7 = some (.ptr b 0)
 t8 : tm.get 8 = some (.int .i64 (.ofNat i))
 t9 : tm.get 9 = some (.slice sb 0 1 cap)
 t10 : tm.get 10 = some (.int .i64 (.ofNat 1))
 t11 : tm.get 11 = some (.int .i64 (.ofNat 0))
 oo : Og hx h [b]
 wr : wrAt h b = true
 c0 : ∀ j, j < 9 → ∃ v, cellAt h b j = some v
 cs : ∀ j, j < suf.length → cellAt h b (i + j) = (suf[j]?).map fun c => .int .u8 (.ofNat c)
structure PnI (h0 : H) (b n : Nat) (s : List Nat) (cap : Cap) (m : Nat) (ds : List Nat) (tm : T AV) (h : H) (i : Nat) : Prop where
 ds : ds = []
 nn : m = 1 - i
 ii : i ≤ 1
 t0 : tm.get 0 = some (.str (if i = 0 then s else s ++ encN n))
 t9 : tm.get 9 = some (.slice b 0 1 cap)
 t10 : tm.get 10 = some (.int .i64 (.ofNat 1))
 t11 : tm.get 11 = some (.int .i64 (.ofNat i))
 oo : Og h0 h []
theorem putN (h0 : H) (b n : Nat) (s : List Nat) (cap : Cap) (hb : b < h0.nx) (hc : cellAt h0 b 0 = some (.int .u64 (.ofNat n))) (hn : n < M64) (hs : s.length ≤ 10000) : PushC P (.enter 60 [.str s, .slice b 0 1 cap] h0) (SaysG h0 (.str (s ++ encN n))) := by
 refine pushC_of_codeW (fn := Tryz.f60) (c := bodyC Tryz.f60) Tryz.func60 rfl ?_
 show codeW P 60 47 none _ _ _ _ _
 refine codeW_root ?_
 repeat' (first | ((with_reducible refine st1 ?_); (conv => whnf); (with_reducible refine ⟨?_⟩)) | ((with_reducible refine retW_intro rfl ?_); (conv => arg 2; whnf)) | ((with_reducible first | refine iB ?_ ?_ | refine gWt ?_ ?_ | refine gWf ?_ ?_) <;> intro hb <;> (try simp only [hb])) | (simp only [B, F, reduceLT, reduceLeDiff, reduceEqDiff, reduceAdd, reduceMul, reduceSub, ↓reduceIte, eq_self]))
 refine st_loop (fun m ds tm h => ∃ i, PnI h0 b n s cap m ds tm h i) 1 rfl ⟨0, rfl, rfl, by omega, by simp only [B, F, reduceLT, reduceLeDiff, reduceEqDiff, reduceAdd, reduceMul, reduceSub, ↓reduceIte, eq_self], by simp only [B, F, reduceLT, reduceLeDiff, reduceEqDiff, reduceAdd, reduceMul, reduceSub, ↓reduceIte, eq_self], by simp only [B, F, reduceLT, reduceLeDiff, reduceEqDiff, reduceAdd, reduceMul, reduceSub, ↓reduceIte, eq_self], by simp only [B, F, reduceLT, reduceLeDiff, reduceEqDiff, reduceAdd, reduceMul, reduceSub, ↓reduceIte, eq_self], Og.refl _ _⟩ (fun m ds tm h hI => ?_)
 obtain ⟨i, rfl, rfl, ii, t0, t9, t10, t11, oo⟩ := hI
 rcases (show i = 0 ∨ i = 1 by omega) with rfl | rfl
 ·have c0 := kc hc oo hb (by simp)
  rw [if_pos rfl] at t0
  have w1 : wrapF .i64 (Int.ofNat 0 + Int.ofNat 1) = Int.ofNat 1:= by kernel_rfl
  by_cases hn8 : n < 248
  ·have hlt : decide (n < 248) = true := decide_eq_true hn8
   have w8 : wrapF .u8 (Int.ofNat n) = Int.ofNat n:= by rw [u8_mod, Nat.mod_eq_of_lt (by omega)]
   have he : encN n = [n]:= by unfold encN; rw [if_pos hn8]
   rw [he]
   obtain ⟨h2, h2e⟩ : ∃ h2, h2 = h.newCells 5 [.int .u8 (.ofNat n)] := ⟨_, rfl⟩
   have o2 : Og h h2 []:= by rw [h2e]; exact (Og.refl _ _).new _ _
   have cv := conv_bytes (h := h2) (b := h.nx) (o := 0) (n := 1) (cap := .exact 1) (l := [n]) rfl (by simp) (fun j hj => by
    rw [h2e, cellAt_new, if_pos rfl, Nat.zero_add]
    match j, hj with
    | 0, _ => rfl) (fun c hc => by rw [List.mem_singleton] at hc; omega)
   have ad := fun h t x y => b_addS (a := s) (b := [n]) (by simp; omega) h t x y
   repeat' (first | ((with_reducible refine st1 ?_); (conv => whnf); (with_reducible refine ⟨?_⟩)) | ((with_reducible refine retW_intro rfl ?_); (conv => arg 2; whnf)) | ((with_reducible first | refine iB ?_ ?_ | refine gWt ?_ ?_ | refine gWf ?_ ?_) <;> intro hb <;> (try simp only [hb])) | (simp only [B, F, reduceLT, reduceLeDiff, reduceEqDiff, reduceAdd, reduceMul, reduceSub, ↓reduceIte, eq_self, t0, t9, t10, t11, c0, hlt, w8, ← h2e, cv, ad, w1]))
   exact ⟨0, by omega, 1, rfl, rfl, by omega, by rw [he]; simp only [B, F, reduceLT, reduceLeDiff, reduceEqDiff, reduceAdd, reduceMul, reduceSub, ↓reduceIte, eq_self], by simp only [B, F, reduceLT, reduceLeDiff, reduceEqDiff, reduceAdd, reduceMul, reduceSub, ↓reduceIte, eq_self, t9], by simp only [B, F, reduceLT, reduceLeDiff, reduceEqDiff, reduceAdd, reduceMul, reduceSub, ↓reduceIte, eq_self, t10], by simp only [B, F, reduceLT, reduceLeDiff, reduceEqDiff, reduceAdd, reduceMul, reduceSub, ↓reduceIte, eq_self], oo.t o2⟩
  ·have hlt : decide (n < 248) = false := decide_eq_false hn8
   have hd8 : (b256 n).length ≤ 8 := b256_len 8 n hn
   have w2 : wrapF .u64 (Int.ofNat n) = Int.ofNat n := u64_nat hn
   obtain ⟨h2, h2e⟩ : ∃ h2, h2 = h.newCells 132 [.int .u8 (.ofNat 0), .int .u8 (.ofNat 0), .int .u8 (.ofNat 0), .int .u8 (.ofNat 0), .int .u8 (.ofNat 0), .int .u8 (.ofNat 0), .int .u8 (.ofNat 0), .int .u8 (.ofNat 0), .int .u8 (.ofNat 0)] := ⟨_, rfl⟩
   have o2 : Og h h2 []:= by rw [h2e]; exact (Og.refl _ _).new _ _
   have x2 : h2.nx = h.nx + 1:= by rw [h2e]; rfl
   have wr2 : wrAt h2 h.nx = true:= by rw [h2e, wrAt_new, if_pos rfl]
   have c2 : ∀ j, j < 9 → ∃ v, cellAt h2 h.nx j = some v := fun j hj => by
    obtain ⟨v, hv⟩ : ∃ v, (List.replicate 9 (AV.int .u8 (.ofNat 0)))[j]? = some v := ⟨_, List.getElem?_eq_getElem (by simpa using hj)⟩
    exact ⟨v, by rw [h2e, cellAt_new, if_pos rfl]; exact hv⟩
   repeat' (first | ((with_reducible refine st1 ?_); (conv => whnf); (with_reducible refine ⟨?_⟩)) | ((with_reducible refine retW_intro rfl ?_); (conv => arg 2; whnf)) | ((with_reducible first | refine iB ?_ ?_ | refine gWt ?_ ?_ | refine gWf ?_ ?_) <;> intro hb <;> (try simp only [hb])) | (simp only [B, F, reduceLT, reduceLeDiff, reduceEqDiff, reduceAdd, reduceMul, reduceSub, ↓reduceIte, eq_self, t0, t9, t10, t11, c0, hlt, ← h2e]))
   refine st_loop (fun m ds tm h' => ∃ i suf, PuI h2 h.nx n s b cap m ds tm h' i suf) n rfl ⟨9, [], rfl, hn, by simp, rfl, by omega, by simp only [B, F, reduceLT, reduceLeDiff, reduceEqDiff, reduceAdd, reduceMul, reduceSub, ↓reduceIte, eq_self, t0], by simp only [B, F, reduceLT, reduceLeDiff, reduceEqDiff, reduceAdd, reduceMul, reduceSub, ↓reduceIte, eq_self], by simp only [B, F, reduceLT, reduceLeDiff, reduceEqDiff, reduceAdd, reduceMul, reduceSub, ↓reduceIte, eq_self], by simp only [B, F, reduceLT, reduceLeDiff, reduceEqDiff, reduceAdd, reduceMul, reduceSub, ↓reduceIte, eq_self], by simp only [B, F, reduceLT, reduceLeDiff, reduceEqDiff, reduceAdd, reduceMul, reduceSub, ↓reduceIte, eq_self, t9], by simp only [B, F, reduceLT, reduceLeDiff, reduceEqDiff, reduceAdd, reduceMul, reduceSub, ↓reduceIte, eq_self, t10], by simp only [B, F, reduceLT, reduceLeDiff, reduceEqDiff, reduceAdd, reduceMul, reduceSub, ↓reduceIte, eq_self, t11], Og.refl _ _, wr2, c2, fun j hj => by cases hj⟩ (fun m ds tm h3 hI => ?_)
   clear t0 t9 t10 t11
   obtain ⟨i, suf, rfl, hm, hs3, ls, hl3, t0, t6, t7, t8, t9, t10, t11, o3, wr3, c3, cs⟩ := hI
   have x3 := o3.1.1
   have wi : wrapF .i64 (Int.ofNat i - Int.ofNat 1) = .ofNat (i - 1) := i64_sub (by omega) (by omega)
   have ia := ia80 h.nx .i64 (i - 1) (by omega)
   obtain ⟨vo, hvo⟩ := c3 (i - 1) (by omega)
   by_cases hz : 0 < m
   ·have d1 : decide (0 < m) = true := decide_eq_true hz
    have sh := shr8 m
    have w8 := u8_mod m
    have hge := b256_s (n := m) (by omega)
    have hlm : (b256 m).length = (b256 (m / 256)).length + 1:= by rw [hge]; simp
    obtain ⟨h4, h4e⟩ : ∃ h4, h4 = h3.sts h.nx (i - 1) [.int .u8 (.ofNat (m % 256))] := ⟨_, rfl⟩
    have hca : ∀ j, cellAt h4 h.nx j = if j = i - 1 then some (.int .u8 (.ofNat (m % 256))) else cellAt h3 h.nx j := fun j => by
     rw [h4e, cellAt_sts wr3]
     by_cases q : j = i - 1
     ·rw [if_pos ⟨rfl, by omega, by simp; omega⟩, if_pos q, q, Nat.sub_self]; rfl
     ·rw [if_neg (by simp; omega), if_neg q]
    repeat' (first | ((with_reducible refine st1 ?_); (conv => whnf); (with_reducible refine ⟨?_⟩)) | ((with_reducible refine retW_intro rfl ?_); (conv => arg 2; whnf)) | ((with_reducible first | refine iB ?_ ?_ | refine gWt ?_ ?_ | refine gWf ?_ ?_) <;> intro hb <;> (try simp only [hb])) | (simp only [B, F, reduceLT, reduceLeDiff, reduceEqDiff, reduceAdd, reduceMul, reduceSub, ↓reduceIte, eq_self, t0, t6, t7, t8, t9, t10, t11, d1, wi, w8, ia, put_sts, wr3, hvo, @b_shr, sh, ← h4e]))
    refine ⟨m / 256, by omega, i - 1, (m % 256) :: suf, rfl, by omega, by rw [hs3, hge, List.append_assoc]; rfl, by rw [List.length_cons]; omega, by omega, by simp only [B, F, reduceLT, reduceLeDiff, reduceEqDiff, reduceAdd, reduceMul, reduceSub, ↓reduceIte, eq_self, t0], by simp only [B, F, reduceLT, reduceLeDiff, reduceEqDiff, reduceAdd, reduceMul, reduceSub, ↓reduceIte, eq_self], by simp only [B, F, reduceLT, reduceLeDiff, reduceEqDiff, reduceAdd, reduceMul, reduceSub, ↓reduceIte, eq_self, t7], by simp only [B, F, reduceLT, reduceLeDiff, reduceEqDiff, reduceAdd, reduceMul, reduceSub, ↓reduceIte, eq_self], by simp only [B, F, reduceLT, reduceLeDiff, reduceEqDiff, reduceAdd, reduceMul, reduceSub, ↓reduceIte, eq_self, t9], by simp only [B, F, reduceLT, reduceLeDiff, reduceEqDiff, reduceAdd, reduceMul, reduceSub, ↓reduceIte, eq_self, t10], by simp only [B, F, reduceLT, reduceLeDiff, reduceEqDiff, reduceAdd, reduceMul, reduceSub, ↓reduceIte, eq_self, t11], by rw [h4e]; exact o3.sts (.inl (by simp)), by rw [h4e, wrAt_sts]; exact wr3, fun j hj => ?_, fun j hj => ?_⟩
    ·rw [hca]
     split
     ·exact ⟨_, rfl⟩
     ·exact c3 j hj
    ·rw [hca]
     cases j with
     | zero => rw [Nat.add_zero, if_pos rfl]; rfl
     | succ j =>
      rw [if_neg (by omega), List.getElem?_cons_succ, show i - 1 + (j + 1) = i + j by omega]
      exact cs j (by simpa using hj)
   ·have d1 : decide (0 < m) = false := decide_eq_false hz
    obtain rfl : m = 0:= by omega
    rw [b256_0, List.nil_append] at hs3
    have hi8 : 1 ≤ i ∧ i ≤ 9:= by omega
    have he : encN n = (247 + (b256 n).length) :: b256 n:= by unfold encN; rw [if_neg hn8]
    have hln : (b256 n).length = 9 - i:= by rw [hs3]; omega
    have w5 : wrapF .i64 (Int.ofNat 255 - Int.ofNat (i - 1)) = .ofNat (255 - (i - 1)) := i64_sub (by omega) (by omega)
    have w6 : wrapF .u8 (Int.ofNat (255 - (i - 1))) = .ofNat (247 + (b256 n).length):= by rw [u8_mod, hln]; congr 1; omega
    obtain ⟨h4, h4e⟩ : ∃ h4, h4 = h3.sts h.nx (i - 1) [.int .u8 (.ofNat (247 + (b256 n).length))] := ⟨_, rfl⟩
    have hca : ∀ j, cellAt h4 h.nx j = if j = i - 1 then some (.int .u8 (.ofNat (247 + (b256 n).length))) else cellAt h3 h.nx j := fun j => by
     rw [h4e, cellAt_sts wr3]
     by_cases q : j = i - 1
     ·rw [if_pos ⟨rfl, by omega, by simp; omega⟩, if_pos q, q, Nat.sub_self]; rfl
     ·rw [if_neg (by simp; omega), if_neg q]
    have hlen : (encN n).length = 9 - (i - 1):= by rw [he, List.length_cons]; omega
    have cv := conv_bytes (h := h4) (b := h.nx) (o := 0 + (i - 1) * 1) (n := 9 - (i - 1)) (cap := .exact (9 - (i - 1))) (l := encN n) hlen (by rw [he]; simp) (fun j hj => by
     rw [hca, Nat.zero_add, Nat.mul_one, he]
     cases j with
     | zero => rw [Nat.add_zero, if_pos rfl]; rfl
     | succ j =>
      rw [if_neg (by omega), List.getElem?_cons_succ, show i - 1 + (j + 1) = i + j by omega, hs3]
      exact cs j (by rw [hlen] at hj; omega)) (encN_byte hn)
    rw [Nat.zero_add] at cv
    have hsl : sliceA P 132 (.ptr h.nx 0) (some (.int .i64 (.ofNat (i - 1)))) none none = some (.slice h.nx (0 + (i - 1) * 1) (9 - (i - 1)) (.exact (9 - (i - 1)))) := by
     have hb : Nat.ble (i - 1) 9 = true:= by rw [Nat.ble_eq]; omega
     have hq : Nat.beq 9 (i - 1) = false := by
      cases q : Nat.beq 9 (i - 1) with
      | false => rfl
      | true => have := Nat.eq_of_beq_eq_true q; omega
     simp only [sliceA, u80a, show okT P 5 = true from ok5, sliceEx, bndO, bnd, hb, hq, co5, Option.isSome, Bool.false_and]
    have ad := fun h t x y => b_addS (a := s) (b := encN n) (by have := encN_len hn; omega) h t x y
    repeat' (first | ((with_reducible refine st1 ?_); (conv => whnf); (with_reducible refine ⟨?_⟩)) | ((with_reducible refine retW_intro rfl ?_); (conv => arg 2; whnf)) | ((with_reducible first | refine iB ?_ ?_ | refine gWt ?_ ?_ | refine gWf ?_ ?_) <;> intro hb <;> (try simp only [hb])) | (simp only [B, F, reduceLT, reduceLeDiff, reduceEqDiff, reduceAdd, reduceMul, reduceSub, ↓reduceIte, eq_self, t0, t6, t7, t8, t9, t10, t11, d1, wi, w5, w6, ia, put_sts, wr3, hvo, ← h4e, @ex_sl_l, hsl, cv, ad, w1]))
    refine ⟨0, by omega, 1, rfl, rfl, by omega, by simp only [B, F, reduceLT, reduceLeDiff, reduceEqDiff, reduceAdd, reduceMul, reduceSub, ↓reduceIte, eq_self], by simp only [B, F, reduceLT, reduceLeDiff, reduceEqDiff, reduceAdd, reduceMul, reduceSub, ↓reduceIte, eq_self, t9], by simp only [B, F, reduceLT, reduceLeDiff, reduceEqDiff, reduceAdd, reduceMul, reduceSub, ↓reduceIte, eq_self, t10], by simp only [B, F, reduceLT, reduceLeDiff, reduceEqDiff, reduceAdd, reduceMul, reduceSub, ↓reduceIte, eq_self], ⟨⟨by rw [h4e, nx_sts]; have := oo.1.1; omega, fun c hc _ => ?_⟩, by rw [h4e, g_sts, o3.2, o2.2, oo.2]⟩⟩
    have := oo.1.1
    rw [h4e, get_sts _ _ _ _ (by omega), o3.1.2 c (by omega) (by simp; omega), o2.1.2 c (by omega) (by simp), oo.1.2 c hc (by simp)]
 ·rw [if_neg (by omega)] at t0
  repeat' (first | ((with_reducible refine st1 ?_); (conv => whnf); (with_reducible refine ⟨?_⟩)) | ((with_reducible refine retW_intro rfl ?_); (conv => arg 2; whnf)) | ((with_reducible first | refine iB ?_ ?_ | refine gWt ?_ ?_ | refine gWf ?_ ?_) <;> intro hb <;> (try simp only [hb])) | (simp only [B, F, reduceLT, reduceLeDiff, reduceEqDiff, reduceAdd, reduceMul, reduceSub, ↓reduceIte, eq_self, t0, t9, t10, t11]))
  exact ⟨rfl, oo⟩
theorem putNumC (h : H) (n : Nat) (s : List Nat) (hn : n < M64) (hs : s.length ≤ 10000) : PushC P (.enter 40 [.str s, .int .u64 (.ofNat n)] h) (SaysG h (.str (s ++ encN n))) := by
 refine pushC_of_codeW (fn := Tryz.f40) (c := bodyC Tryz.f40) Tryz.func40 rfl ?_
 show codeW P 40 9 none _ _ _ _ _
 refine codeW_root ?_
 repeat' (first | ((with_reducible refine st1 ?_); (conv => whnf); (with_reducible refine ⟨?_⟩)) | ((with_reducible refine retW_intro rfl ?_); (conv => arg 2; whnf)) | ((with_reducible first | refine iB ?_ ?_ | refine gWt ?_ ?_ | refine gWf ?_ ?_) <;> intro hb <;> (try simp only [hb])) | (simp only [B, F, reduceLT, reduceLeDiff, reduceEqDiff, reduceAdd, reduceMul, reduceSub, ↓reduceIte, eq_self]))
 refine ((putN _ h.nx n s _ (Nat.lt_succ_self _) (by rw [cellAt_new, if_pos rfl]; rfl) hn hs).call P).mono P ?_
 rintro v h1 ⟨rfl, o1⟩
 repeat' (first | ((with_reducible refine st1 ?_); (conv => whnf); (with_reducible refine ⟨?_⟩)) | ((with_reducible refine retW_intro rfl ?_); (conv => arg 2; whnf)) | ((with_reducible first | refine iB ?_ ?_ | refine gWt ?_ ?_ | refine gWf ?_ ?_) <;> intro hb <;> (try simp only [hb])) | (simp only [B, F, reduceLT, reduceLeDiff, reduceEqDiff, reduceAdd, reduceMul, reduceSub, ↓reduceIte, eq_self]))
 exact ⟨rfl, ((Og.refl _ _).new _ _).t o1⟩
theorem putTextC (h : H) (s u : List Nat) (hu : u.length < 100000) (hs : s.length ≤ 9000) : PushC P (.enter 39 [.str s, .str u] h) (SaysG h (.str (s ++ encN u.length ++ u))) := by
 have hu2 : u.length < M64:= by have : M64 = 18446744073709551616 := rfl; omega
 have w : wrapF .u64 (Int.ofNat u.length) = Int.ofNat u.length := u64_nat (by omega)
 have ad := fun h t x y => b_addS (a := s ++ encN u.length) (b := u) (by rw [List.length_append]; have := encN_len hu2; omega) h t x y
 refine pushC_of_codeW (fn := Tryz.f39) (c := bodyC Tryz.f39) Tryz.func39 rfl ?_
 show codeW P 39 13 none _ _ _ _ _
 refine codeW_root ?_
 repeat' (first | ((with_reducible refine st1 ?_); (conv => whnf); (with_reducible refine ⟨?_⟩)) | ((with_reducible refine retW_intro rfl ?_); (conv => arg 2; whnf)) | ((with_reducible first | refine iB ?_ ?_ | refine gWt ?_ ?_ | refine gWf ?_ ?_) <;> intro hb <;> (try simp only [hb])) | (simp only [B, F, reduceLT, reduceLeDiff, reduceEqDiff, reduceAdd, reduceMul, reduceSub, ↓reduceIte, eq_self, w]))
 refine ((putN _ h.nx u.length s _ (Nat.lt_succ_self _) (by rw [cellAt_new, if_pos rfl]; rfl) hu2 (by omega)).call P).mono P ?_
 rintro v h1 ⟨rfl, o1⟩
 repeat' (first | ((with_reducible refine st1 ?_); (conv => whnf); (with_reducible refine ⟨?_⟩)) | ((with_reducible refine retW_intro rfl ?_); (conv => arg 2; whnf)) | ((with_reducible first | refine iB ?_ ?_ | refine gWt ?_ ?_ | refine gWf ?_ ?_) <;> intro hb <;> (try simp only [hb])) | (simp only [B, F, reduceLT, reduceLeDiff, reduceEqDiff, reduceAdd, reduceMul, reduceSub, ↓reduceIte, eq_self, ad]))
 exact ⟨rfl, ((Og.refl _ _).new _ _).t o1⟩
end
end Go.Proofs.YtllmfnedkhiomaaGreatDoor.S

namespace Go.Proofs.YtllmfnedkhiomaaGreatDoor.S
open Go Go.AX
noncomputable section
set_option maxRecDepth 100000
theorem ord38_0 : drawO P (regionOf (codeI (bodyC Tryz.f38) [0])) [0, 1, 3, 4, 2, 5, 6] = true:= by kernel_rfl
theorem ord38_1 : drawO P (regionOf (codeI (bodyC Tryz.f38) [0, 0, 1, 0, 0, 1, 0, 0, 1, 1])) [0, 1, 5, 8, 9, 10, 2, 3, 4, 6, 7, 11, 12] = true:= by kernel_rfl
theorem ord28_0 : drawO P (regionOf (codeI (bodyC Tryz.f28) [0, 1])) [0, 1, 3, 4, 2, 5, 6] = true:= by kernel_rfl
theorem ord28_1 : drawO P (regionOf (codeI (bodyC Tryz.f28) [0, 0, 1, 0, 0, 1, 0, 1, 1, 1])) [0, 1, 2, 6, 10, 11, 12, 13, 14, 15, 16, 17, 18, 19, 7, 3, 4, 5, 8, 9, 20, 21, 22, 23] = true:= by kernel_rfl
theorem ord4_0 : drawO P (regionOf (codeI (bodyC Tryz.f4) [0, 1, 1, 1, 1, 1, 1, 1])) [0, 3, 1, 2, 4, 5, 6, 7, 9, 10, 11, 12, 13, 8, 14, 15, 16, 17, 18, 19] = true:= by kernel_rfl
theorem ord24_0 : drawO P (regionOf (codeI (bodyC Tryz.f24) [0, 0, 1, 1, 1, 1, 1, 1, 1])) [0, 2, 3, 4, 5, 6, 7, 8, 1, 9] = true:= by kernel_rfl
def keyP (c i : Nat) : List Nat := 115 :: (hexP c 12 ++ [45] ++ hexP i 2)
def pieceP (s : List Nat) (i : Nat) : List Nat := (s.drop (i * 96)).take 96
def textP (num : Nat) (r : List Nat) : List Nat := encN num ++ encN r.length ++ r
def cntP (s : List Nat) : Nat := (s.length + 95) / 96
theorem cut_hi (s : List Nat) (n : Nat) (hn : n ≤ s.length) : sliceA P 9 (.str s) none (some (.int .i64 (.ofNat n))) none = some (.str (s.take n)) := by
 have hb : Nat.ble n s.length = true:= by rw [Nat.ble_eq]; exact hn
 simp only [sliceA, u9a, sliceStr, bndO, bnd, lenL_eq, hb, List.drop_zero, Nat.ble]
theorem cut_lo (s : List Nat) (n : Nat) (hn : n ≤ s.length) : sliceA P 9 (.str s) (some (.int .i64 (.ofNat n))) none none = some (.str (s.drop n)) := by
 have hb : Nat.ble n s.length = true:= by rw [Nat.ble_eq]; exact hn
 simp only [sliceA, u9a, sliceStr, bndO, bnd, lenL_eq, hb, List.take_length]
structure PcI (l b1 b2 : Nat) (s : List Nat) (J : Nat → H → Prop) (m : Nat) (ds : List Nat) (tm : T AV) (h : H) (i : Nat) : Prop where
 ds : ds = []
 nn : m = s.length - i * 96
 ii : i ≤ cntP s
 t0 : tm.get 0 = some (.yield l)
 t2 : tm.get 2 = some (.ptr b2 0)
 t4 : tm.get 4 = some (.str (s.drop (i * 96)))
 t5 : tm.get 5 = some (.int .u64 (.ofNat i))
 jj : J i h
theorem piecesC (h0 : H) (l b1 b2 c num : Nat) (r : List Nat) (hn : num < M64) (hr : r.length < 5000) (hc : c < M64) (J : Nat → H → Prop)
  (k0 : cellAt h0 b1 0 = some (.int .u64 (.ofNat num))) (k1 : cellAt h0 b1 1 = some (.str r)) (hb1 : b1 < h0.nx)
  (hJs : ∀ i h h', J i h → Og h h' [] → J i h') (hJX : ∀ i h, J i h → Gl h ∧ cellAt h b2 0 = some (.int .u64 (.ofNat c)) ∧ b2 < h.nx)
  (hJr : ∀ i h, J i h → i < cntP (textP num r) → PushC P (.round l [.str (keyP c i), .str (pieceP (textP num r) i)] h) fun v h' => v = .bool true ∧ J (i + 1) h') (h0J : J 0 h0) :
  PushC P (.enter 38 [.yield l, .ptr b1 0, .ptr b2 0] h0) fun _ h' => J (cntP (textP num r)) h' := by
 obtain ⟨s, hs⟩ : ∃ s, s = textP num r := ⟨_, rfl⟩
 rw [← hs] at hJr ⊢
 have hr2 : r.length < M64:= by have : M64 = 18446744073709551616 := rfl; omega
 have hsl : s.length ≤ 5020:= by rw [hs]; unfold textP; have := encN_len hn; have := encN_len hr2; simp; omega
 have e0 : bytesOf { data := #[] } = [] := rfl
 have e1 : bytesOf { data := #[115] } = [115] := rfl
 have e2 : bytesOf { data := #[45] } = [45] := rfl
 refine pushC_of_codeW (fn := Tryz.f38) (c := bodyC Tryz.f38) Tryz.func38 rfl ?_
 show codeW P 38 36 none _ _ _ _ _
 refine codeW_root ?_
 repeat' (first | ((with_reducible refine st1 ?_); (conv => whnf); (with_reducible refine ⟨?_⟩)) | ((with_reducible refine st_dp ord38_0 ?_ rfl rfl ?_); exact rfl; (conv => arg 4; whnf); (conv => arg 3; whnf)) | ((with_reducible refine st_dp ord38_1 ?_ rfl rfl ?_); exact rfl; (conv => arg 4; whnf); (conv => arg 3; whnf)) | ((with_reducible refine retW_intro rfl ?_); (conv => arg 2; whnf)) | ((with_reducible first | refine iB ?_ ?_ | refine gWt ?_ ?_ | refine gWf ?_ ?_ | refine gXt ?_ ?_ | refine gXf ?_ ?_) <;> intro hb <;> (try simp only [hb])) | ((with_reducible show drawP _ _ _ _ _ _ _ _ _); first | ((with_reducible apply kP_rd); exact rfl; exact rfl) | ((with_reducible apply kP_rg); exact rfl; exact rfl; exact rfl) | ((with_reducible apply kP_cv); exact rfl; exact rfl; kernel_rfl) | ((with_reducible apply kP_al); exact rfl; exact rfl; exact rfl) | ((with_reducible apply kP_fl); exact rfl; exact rfl; exact rfl) | ((with_reducible apply kP_ex); exact rfl; exact rfl; kernel_rfl; exact rfl) | ((with_reducible apply kP_eg); exact rfl; exact rfl; kernel_rfl; exact rfl) | ((with_reducible refine kP_nl ?_ ?_))) | ((with_reducible show eOk _ _ _ _ _ _); first | (exact eok_nil) | (refine ke_rd ?_ ?_ ?_; exact rfl) | (apply ke_rg; exact rfl; exact rfl) | (refine ke_cv ?_ ?_ ?_ ?_; exact rfl; kernel_rfl) | (apply ke_fl; exact rfl) | (apply ke_al; exact rfl; exact rfl)) | ((with_reducible refine freshIs_new ?_); kernel_rfl) | (simp only [B, xB, F, reduceLT, reduceLeDiff, reduceEqDiff, reduceAdd, reduceMul, reduceSub, ↓reduceIte, eq_self, k0, k1, e0]))
 refine ((putNumC h0 num [] hn (by simp)).call P).mono P ?_
 rintro v h1 ⟨rfl, o1⟩
 have q0 := kc k0 o1 hb1 (by simp)
 have q1 := kc k1 o1 hb1 (by simp)
 repeat' (first | ((with_reducible refine st1 ?_); (conv => whnf); (with_reducible refine ⟨?_⟩)) | ((with_reducible refine st_dp ord38_0 ?_ rfl rfl ?_); exact rfl; (conv => arg 4; whnf); (conv => arg 3; whnf)) | ((with_reducible refine st_dp ord38_1 ?_ rfl rfl ?_); exact rfl; (conv => arg 4; whnf); (conv => arg 3; whnf)) | ((with_reducible refine retW_intro rfl ?_); (conv => arg 2; whnf)) | ((with_reducible first | refine iB ?_ ?_ | refine gWt ?_ ?_ | refine gWf ?_ ?_ | refine gXt ?_ ?_ | refine gXf ?_ ?_) <;> intro hb <;> (try simp only [hb])) | ((with_reducible show drawP _ _ _ _ _ _ _ _ _); first | ((with_reducible apply kP_rd); exact rfl; exact rfl) | ((with_reducible apply kP_rg); exact rfl; exact rfl; exact rfl) | ((with_reducible apply kP_cv); exact rfl; exact rfl; kernel_rfl) | ((with_reducible apply kP_al); exact rfl; exact rfl; exact rfl) | ((with_reducible apply kP_fl); exact rfl; exact rfl; exact rfl) | ((with_reducible apply kP_ex); exact rfl; exact rfl; kernel_rfl; exact rfl) | ((with_reducible apply kP_eg); exact rfl; exact rfl; kernel_rfl; exact rfl) | ((with_reducible refine kP_nl ?_ ?_))) | ((with_reducible show eOk _ _ _ _ _ _); first | (exact eok_nil) | (refine ke_rd ?_ ?_ ?_; exact rfl) | (apply ke_rg; exact rfl; exact rfl) | (refine ke_cv ?_ ?_ ?_ ?_; exact rfl; kernel_rfl) | (apply ke_fl; exact rfl) | (apply ke_al; exact rfl; exact rfl)) | ((with_reducible refine freshIs_new ?_); kernel_rfl) | (simp only [B, xB, F, reduceLT, reduceLeDiff, reduceEqDiff, reduceAdd, reduceMul, reduceSub, ↓reduceIte, eq_self, k0, k1, q0, q1, e0]))
 refine ((putTextC h1 ([] ++ encN num) r (by omega) (by have := encN_len hn; simp; omega)).call P).mono P ?_
 rintro v h2 ⟨rfl, o2⟩
 have q2 := kc q0 o2 (by have := o1.1.1; omega) (by simp)
 have q3 := kc q1 o2 (by have := o1.1.1; omega) (by simp)
 have hs2 : [] ++ encN num ++ encN r.length ++ r = s:= by rw [hs]; rfl
 rw [hs2]
 repeat' (first | ((with_reducible refine st1 ?_); (conv => whnf); (with_reducible refine ⟨?_⟩)) | ((with_reducible refine st_dp ord38_0 ?_ rfl rfl ?_); exact rfl; (conv => arg 4; whnf); (conv => arg 3; whnf)) | ((with_reducible refine st_dp ord38_1 ?_ rfl rfl ?_); exact rfl; (conv => arg 4; whnf); (conv => arg 3; whnf)) | ((with_reducible refine retW_intro rfl ?_); (conv => arg 2; whnf)) | ((with_reducible first | refine iB ?_ ?_ | refine gWt ?_ ?_ | refine gWf ?_ ?_ | refine gXt ?_ ?_ | refine gXf ?_ ?_) <;> intro hb <;> (try simp only [hb])) | ((with_reducible show drawP _ _ _ _ _ _ _ _ _); first | ((with_reducible apply kP_rd); exact rfl; exact rfl) | ((with_reducible apply kP_rg); exact rfl; exact rfl; exact rfl) | ((with_reducible apply kP_cv); exact rfl; exact rfl; kernel_rfl) | ((with_reducible apply kP_al); exact rfl; exact rfl; exact rfl) | ((with_reducible apply kP_fl); exact rfl; exact rfl; exact rfl) | ((with_reducible apply kP_ex); exact rfl; exact rfl; kernel_rfl; exact rfl) | ((with_reducible apply kP_eg); exact rfl; exact rfl; kernel_rfl; exact rfl) | ((with_reducible refine kP_nl ?_ ?_))) | ((with_reducible show eOk _ _ _ _ _ _); first | (exact eok_nil) | (refine ke_rd ?_ ?_ ?_; exact rfl) | (apply ke_rg; exact rfl; exact rfl) | (refine ke_cv ?_ ?_ ?_ ?_; exact rfl; kernel_rfl) | (apply ke_fl; exact rfl) | (apply ke_al; exact rfl; exact rfl)) | ((with_reducible refine freshIs_new ?_); kernel_rfl) | (simp only [B, xB, F, reduceLT, reduceLeDiff, reduceEqDiff, reduceAdd, reduceMul, reduceSub, ↓reduceIte, eq_self, k0, k1, q0, q1, q2, q3, e0]))
 have o12 := o1.t o2
 have hcnt : cntP s = (s.length + 95) / 96 := rfl
 refine st_loop (fun m ds tm h => ∃ i, PcI l b1 b2 s J m ds tm h i) s.length rfl ⟨0, rfl, by omega, Nat.zero_le _, by simp only [B, xB, F, reduceLT, reduceLeDiff, reduceEqDiff, reduceAdd, reduceMul, reduceSub, ↓reduceIte, eq_self], by simp only [B, xB, F, reduceLT, reduceLeDiff, reduceEqDiff, reduceAdd, reduceMul, reduceSub, ↓reduceIte, eq_self], by simp only [B, xB, F, reduceLT, reduceLeDiff, reduceEqDiff, reduceAdd, reduceMul, reduceSub, ↓reduceIte, eq_self, Nat.zero_mul, List.drop_zero], by simp only [B, xB, F, reduceLT, reduceLeDiff, reduceEqDiff, reduceAdd, reduceMul, reduceSub, ↓reduceIte, eq_self], hJs _ _ _ h0J o12⟩ (fun m ds tm h hI => ?_)
 obtain ⟨i, rfl, rfl, ii, t0, t2, t4, t5, jj⟩ := hI
 obtain ⟨gl, kc2, hb2⟩ := hJX _ _ jj
 by_cases hi : i * 96 < s.length
 ·have hlen : (s.drop (i * 96)).length = s.length - i * 96 := List.length_drop
  have d1 : decide (s.drop (i * 96) = []) = false := decide_eq_false (fun e => by rw [e] at hlen; simp at hlen; omega)
  obtain ⟨n, hn96⟩ : ∃ n, n = min (s.drop (i * 96)).length 96 := ⟨_, rfl⟩
  have mn : (if Int.ofNat 96 < Int.ofNat (s.drop (i * 96)).length then Int.ofNat 96 else Int.ofNat (s.drop (i * 96)).length) = Int.ofNat n := by
   have : ∀ a : Nat, (if ((96 : Nat) : Int) < (a : Int) then ((96 : Nat) : Int) else (a : Int)) = ((min a 96 : Nat) : Int) := fun a => by split <;> omega
   rw [hn96]; exact this _
  have ch := cut_hi (s.drop (i * 96)) n (by omega)
  have cl := cut_lo (s.drop (i * 96)) n (by omega)
  have htk : (s.drop (i * 96)).take n = pieceP s i := by
   unfold pieceP
   rw [hn96]
   rcases Nat.le_total (s.drop (i * 96)).length 96 with q | q
   ·rw [Nat.min_eq_left q, List.take_of_length_le (Nat.le_refl _), List.take_of_length_le q]
   ·rw [Nat.min_eq_right q]
  rw [htk] at ch
  have hdr : (s.drop (i * 96)).drop n = s.drop ((i + 1) * 96) := by
   rw [List.drop_drop]
   rcases Nat.le_total (s.drop (i * 96)).length 96 with q | q
   ·rw [hn96, Nat.min_eq_left q, List.drop_eq_nil_of_le (by omega), List.drop_eq_nil_of_le (by omega)]
   ·rw [hn96, Nat.min_eq_right q]; congr 1; omega
  rw [hdr] at cl
  have h16 : (16 : Nat) ^ 16 = M64:= by decide
  have hl12 : (hexL c).length ≤ 16 := hexL_len 15 c (by rw [h16]; exact hc)
  have hi3 : i < M64:= by show i < 18446744073709551616; omega
  have hl2 : (hexL i).length ≤ 16 := hexL_len 15 i (by rw [h16]; exact hi3)
  have hp12 : (hexP c 12).length ≤ 40:= by unfold hexP; simp; omega
  have hp2 : (hexP i 2).length ≤ 40:= by unfold hexP; simp; omega
  have ad1 : ∀ h t x y, binR P h .add t x y (.str [115]) (.str (hexP c 12)) = .val (.str (115 :: hexP c 12)) h := fun h t x y => b_addS (a := [115]) (by simp; omega) h t x y
  have ad2 : ∀ h t x y, binR P h .add t x y (.str (115 :: hexP c 12)) (.str [45]) = .val (.str (115 :: (hexP c 12 ++ [45]))) h := fun h t x y => b_addS (a := 115 :: hexP c 12) (by simp; omega) h t x y
  have ad3 : ∀ h t x y, binR P h .add t x y (.str (115 :: (hexP c 12 ++ [45]))) (.str (hexP i 2)) = .val (.str (keyP c i)) h := fun h t x y => b_addS (a := 115 :: (hexP c 12 ++ [45])) (by simp; omega) h t x y
  have w5 : wrapF .u64 (Int.ofNat i + Int.ofNat 1) = Int.ofNat (i + 1) := u64_add (by omega)
  repeat' (first | ((with_reducible refine st1 ?_); (conv => whnf); (with_reducible refine ⟨?_⟩)) | ((with_reducible refine st_dp ord38_0 ?_ rfl rfl ?_); exact rfl; (conv => arg 4; whnf); (conv => arg 3; whnf)) | ((with_reducible refine st_dp ord38_1 ?_ rfl rfl ?_); exact rfl; (conv => arg 4; whnf); (conv => arg 3; whnf)) | ((with_reducible refine retW_intro rfl ?_); (conv => arg 2; whnf)) | ((with_reducible first | refine iB ?_ ?_ | refine gWt ?_ ?_ | refine gWf ?_ ?_ | refine gXt ?_ ?_ | refine gXf ?_ ?_) <;> intro hb <;> (try simp only [hb])) | ((with_reducible show drawP _ _ _ _ _ _ _ _ _); first | ((with_reducible apply kP_rd); exact rfl; exact rfl) | ((with_reducible apply kP_rg); exact rfl; exact rfl; exact rfl) | ((with_reducible apply kP_cv); exact rfl; exact rfl; kernel_rfl) | ((with_reducible apply kP_al); exact rfl; exact rfl; exact rfl) | ((with_reducible apply kP_fl); exact rfl; exact rfl; exact rfl) | ((with_reducible apply kP_ex); exact rfl; exact rfl; kernel_rfl; exact rfl) | ((with_reducible apply kP_eg); exact rfl; exact rfl; kernel_rfl; exact rfl) | ((with_reducible refine kP_nl ?_ ?_))) | ((with_reducible show eOk _ _ _ _ _ _); first | (exact eok_nil) | (refine ke_rd ?_ ?_ ?_; exact rfl) | (apply ke_rg; exact rfl; exact rfl) | (refine ke_cv ?_ ?_ ?_ ?_; exact rfl; kernel_rfl) | (apply ke_fl; exact rfl) | (apply ke_al; exact rfl; exact rfl)) | ((with_reducible refine freshIs_new ?_); kernel_rfl) | (simp only [B, xB, F, reduceLT, reduceLeDiff, reduceEqDiff, reduceAdd, reduceMul, reduceSub, ↓reduceIte, eq_self, t0, t2, t4, t5, e0, e1, e2, d1, mn, @ex_sl_h, ch, kc2]))
  refine ((hexC h gl c 12 hc (by omega)).call P).mono P ?_
  rintro v h3 ⟨rfl, o3⟩
  have j3 := hJs _ _ _ jj o3
  obtain ⟨gl3, kc3, hb3⟩ := hJX _ _ j3
  repeat' (first | ((with_reducible refine st1 ?_); (conv => whnf); (with_reducible refine ⟨?_⟩)) | ((with_reducible refine st_dp ord38_0 ?_ rfl rfl ?_); exact rfl; (conv => arg 4; whnf); (conv => arg 3; whnf)) | ((with_reducible refine st_dp ord38_1 ?_ rfl rfl ?_); exact rfl; (conv => arg 4; whnf); (conv => arg 3; whnf)) | ((with_reducible refine retW_intro rfl ?_); (conv => arg 2; whnf)) | ((with_reducible first | refine iB ?_ ?_ | refine gWt ?_ ?_ | refine gWf ?_ ?_ | refine gXt ?_ ?_ | refine gXf ?_ ?_) <;> intro hb <;> (try simp only [hb])) | ((with_reducible show drawP _ _ _ _ _ _ _ _ _); first | ((with_reducible apply kP_rd); exact rfl; exact rfl) | ((with_reducible apply kP_rg); exact rfl; exact rfl; exact rfl) | ((with_reducible apply kP_cv); exact rfl; exact rfl; kernel_rfl) | ((with_reducible apply kP_al); exact rfl; exact rfl; exact rfl) | ((with_reducible apply kP_fl); exact rfl; exact rfl; exact rfl) | ((with_reducible apply kP_ex); exact rfl; exact rfl; kernel_rfl; exact rfl) | ((with_reducible apply kP_eg); exact rfl; exact rfl; kernel_rfl; exact rfl) | ((with_reducible refine kP_nl ?_ ?_))) | ((with_reducible show eOk _ _ _ _ _ _); first | (exact eok_nil) | (refine ke_rd ?_ ?_ ?_; exact rfl) | (apply ke_rg; exact rfl; exact rfl) | (refine ke_cv ?_ ?_ ?_ ?_; exact rfl; kernel_rfl) | (apply ke_fl; exact rfl) | (apply ke_al; exact rfl; exact rfl)) | ((with_reducible refine freshIs_new ?_); kernel_rfl) | (simp only [B, xB, F, reduceLT, reduceLeDiff, reduceEqDiff, reduceAdd, reduceMul, reduceSub, ↓reduceIte, eq_self, t0, t2, t4, t5, e0, e1, e2, d1, mn, @ex_sl_h, ch, kc2, kc3, ad1, ad2]))
  refine ((hexC h3 gl3 i 2 hi3 (by omega)).call P).mono P ?_
  rintro v h4 ⟨rfl, o4⟩
  have j4 := hJs _ _ _ j3 o4
  obtain ⟨gl4, kc4, hb4⟩ := hJX _ _ j4
  repeat' (first | ((with_reducible refine st1 ?_); (conv => whnf); (with_reducible refine ⟨?_⟩)) | ((with_reducible refine st_dp ord38_0 ?_ rfl rfl ?_); exact rfl; (conv => arg 4; whnf); (conv => arg 3; whnf)) | ((with_reducible refine st_dp ord38_1 ?_ rfl rfl ?_); exact rfl; (conv => arg 4; whnf); (conv => arg 3; whnf)) | ((with_reducible refine retW_intro rfl ?_); (conv => arg 2; whnf)) | ((with_reducible first | refine iB ?_ ?_ | refine gWt ?_ ?_ | refine gWf ?_ ?_ | refine gXt ?_ ?_ | refine gXf ?_ ?_) <;> intro hb <;> (try simp only [hb])) | ((with_reducible show drawP _ _ _ _ _ _ _ _ _); first | ((with_reducible apply kP_rd); exact rfl; exact rfl) | ((with_reducible apply kP_rg); exact rfl; exact rfl; exact rfl) | ((with_reducible apply kP_cv); exact rfl; exact rfl; kernel_rfl) | ((with_reducible apply kP_al); exact rfl; exact rfl; exact rfl) | ((with_reducible apply kP_fl); exact rfl; exact rfl; exact rfl) | ((with_reducible apply kP_ex); exact rfl; exact rfl; kernel_rfl; exact rfl) | ((with_reducible apply kP_eg); exact rfl; exact rfl; kernel_rfl; exact rfl) | ((with_reducible refine kP_nl ?_ ?_))) | ((with_reducible show eOk _ _ _ _ _ _); first | (exact eok_nil) | (refine ke_rd ?_ ?_ ?_; exact rfl) | (apply ke_rg; exact rfl; exact rfl) | (refine ke_cv ?_ ?_ ?_ ?_; exact rfl; kernel_rfl) | (apply ke_fl; exact rfl) | (apply ke_al; exact rfl; exact rfl)) | ((with_reducible refine freshIs_new ?_); kernel_rfl) | (simp only [B, xB, F, reduceLT, reduceLeDiff, reduceEqDiff, reduceAdd, reduceMul, reduceSub, ↓reduceIte, eq_self, t0, t2, t4, t5, e0, e1, e2, d1, mn, @ex_sl_h, ch, kc2, kc3, kc4, ad1, ad2, ad3]))
  refine ((hJr i h4 j4 (by omega)).call P).mono P ?_
  rintro v h5 ⟨rfl, j5⟩
  obtain ⟨gl5, kc5, hb5⟩ := hJX _ _ j5
  repeat' (first | ((with_reducible refine st1 ?_); (conv => whnf); (with_reducible refine ⟨?_⟩)) | ((with_reducible refine st_dp ord38_0 ?_ rfl rfl ?_); exact rfl; (conv => arg 4; whnf); (conv => arg 3; whnf)) | ((with_reducible refine st_dp ord38_1 ?_ rfl rfl ?_); exact rfl; (conv => arg 4; whnf); (conv => arg 3; whnf)) | ((with_reducible refine retW_intro rfl ?_); (conv => arg 2; whnf)) | ((with_reducible first | refine iB ?_ ?_ | refine gWt ?_ ?_ | refine gWf ?_ ?_ | refine gXt ?_ ?_ | refine gXf ?_ ?_) <;> intro hb <;> (try simp only [hb])) | ((with_reducible show drawP _ _ _ _ _ _ _ _ _); first | ((with_reducible apply kP_rd); exact rfl; exact rfl) | ((with_reducible apply kP_rg); exact rfl; exact rfl; exact rfl) | ((with_reducible apply kP_cv); exact rfl; exact rfl; kernel_rfl) | ((with_reducible apply kP_al); exact rfl; exact rfl; exact rfl) | ((with_reducible apply kP_fl); exact rfl; exact rfl; exact rfl) | ((with_reducible apply kP_ex); exact rfl; exact rfl; kernel_rfl; exact rfl) | ((with_reducible apply kP_eg); exact rfl; exact rfl; kernel_rfl; exact rfl) | ((with_reducible refine kP_nl ?_ ?_))) | ((with_reducible show eOk _ _ _ _ _ _); first | (exact eok_nil) | (refine ke_rd ?_ ?_ ?_; exact rfl) | (apply ke_rg; exact rfl; exact rfl) | (refine ke_cv ?_ ?_ ?_ ?_; exact rfl; kernel_rfl) | (apply ke_fl; exact rfl) | (apply ke_al; exact rfl; exact rfl)) | ((with_reducible refine freshIs_new ?_); kernel_rfl) | (simp only [B, xB, F, reduceLT, reduceLeDiff, reduceEqDiff, reduceAdd, reduceMul, reduceSub, ↓reduceIte, eq_self, t0, t2, t4, t5, e0, e1, e2, d1, mn, @ex_sl_h, @ex_sl_l, ch, cl, kc2, kc3, kc4, kc5, ad1, ad2, ad3, Bool.not_true, w5]))
  exact ⟨s.length - (i + 1) * 96, by omega, i + 1, rfl, rfl, by omega, by simp only [B, xB, F, reduceLT, reduceLeDiff, reduceEqDiff, reduceAdd, reduceMul, reduceSub, ↓reduceIte, eq_self, t0], by simp only [B, xB, F, reduceLT, reduceLeDiff, reduceEqDiff, reduceAdd, reduceMul, reduceSub, ↓reduceIte, eq_self, t2], by simp only [B, xB, F, reduceLT, reduceLeDiff, reduceEqDiff, reduceAdd, reduceMul, reduceSub, ↓reduceIte, eq_self], by simp only [B, xB, F, reduceLT, reduceLeDiff, reduceEqDiff, reduceAdd, reduceMul, reduceSub, ↓reduceIte, eq_self], j5⟩
 ·have hnil : s.drop (i * 96) = [] := List.drop_eq_nil_of_le (by omega)
  have d1 : decide (s.drop (i * 96) = []) = true := decide_eq_true hnil
  have hi9 : i = cntP s:= by omega
  rw [← hi9]
  repeat' (first | ((with_reducible refine st1 ?_); (conv => whnf); (with_reducible refine ⟨?_⟩)) | ((with_reducible refine retW_intro rfl ?_); (conv => arg 2; whnf)) | ((with_reducible first | refine iB ?_ ?_ | refine gWt ?_ ?_ | refine gWf ?_ ?_) <;> intro hb <;> (try simp only [hb])) | (simp only [B, xB, F, reduceLT, reduceLeDiff, reduceEqDiff, reduceAdd, reduceMul, reduceSub, ↓reduceIte, eq_self, t0, t2, t4, t5, e0, d1]))
  rw [retK_norm]
  exact ⟨_, rfl, _, rfl, jj⟩
end
end Go.Proofs.YtllmfnedkhiomaaGreatDoor.S

namespace Go.Proofs.YtllmfnedkhiomaaGreatDoor.S
open Go Go.AX
noncomputable section
set_option maxRecDepth 100000
abbrev encU : Nat → AV := fun n => .int .u64 (.ofNat n)
abbrev Lst := Nat × List Nat
def lsA (x : Lst) : AV := .agg [.int .u64 (.ofNat x.1), .str x.2]
def mapV (Bk : List (Nat × Lst)) : List (Nat × AV) := Bk.map fun p => (p.1, lsA p.2)
def getB (c : Nat) (Bk : List (Nat × Lst)) : Option Lst := (Bk.find? fun p => decide (c = p.1)).map (·.2)
theorem get_mapV (c : Nat) : ∀ Bk : List (Nat × Lst), mapGet c (mapV Bk) = (getB c Bk).map lsA
 | [] => rfl
 | p :: Bk => by
  have ih := get_mapV c Bk
  unfold mapGet mapV getB at *
  rw [List.map_cons, List.find?_cons, List.find?_cons]
  by_cases q : c = p.1
  ·simp [q]
  ·simp only [q, decide_false]; exact ih
def putB (c : Nat) (x : Lst) : List (Nat × Lst) → List (Nat × Lst)
 | [] => [(c, x)]
 | (a, y) :: Bk => if c = a then (a, x) :: Bk else (a, y) :: putB c x Bk
theorem put_mapV (c : Nat) (x : Lst) : ∀ Bk : List (Nat × Lst), mapPut c (lsA x) (mapV Bk) = mapV (putB c x Bk)
 | [] => rfl
 | (a, y) :: Bk => by
  have ih := put_mapV c x Bk
  unfold mapV at *
  rw [List.map_cons]
  unfold mapPut putB
  by_cases q : c = a
  ·simp [q]
  ·simp only [q, if_false, List.map_cons, ih]
structure BkAt (h : H) (b r : Nat) (Bk : List (Nat × Lst)) : Prop where
 lt : b < h.nx
 c0 : cellAt h b 0 = some (.map r)
 mm : MapK encU h r (mapV Bk)
 ne : b ≠ r
theorem BkAt.keep {h h' : H} {b r : Nat} {Bk : List (Nat × Lst)} (k : BkAt h b r Bk) {S : List Nat} (o : Og h h' S) (hb : b ∉ S) (hr : r ∉ S) : BkAt h' b r Bk :=
 ⟨Nat.lt_of_lt_of_le k.lt o.1.1, kc k.c0 o k.lt hb, k.mm.keep o.1 hr, k.ne⟩
theorem u52a : P.underlying 53 = some (.map 26 65):= by kernel_rfl
theorem k26 : KeyT P 26 encU := keyT_int (by kernel_rfl)
theorem z56a : zeroA P 65 = some (lsA (0, [])):= by kernel_rfl
theorem lookC {h : H} {b r : Nat} {Bk : List (Nat × Lst)} (k : BkAt h b r Bk) (c : Nat) : lookupA P 53 (.map r) (.int .u64 (.ofNat c)) true h = some (.tuple [lsA ((getB c Bk).getD (0, [])), .bool (getB c Bk).isSome]) := by
 have := lookup_k u52a k26 z56a k.mm c true
 rw [get_mapV] at this
 refine this.trans ?_
 cases getB c Bk <;> rfl
theorem lenB {h : H} {b r : Nat} {Bk : List (Nat × Lst)} (k : BkAt h b r Bk) (ts : List TypeId) (xs : List AV) : builtinA P .len (53 :: ts) (.map r :: xs) h = .val (.int .i64 (.ofNat Bk.length)) h := by
 have := len_k u52a k.mm ts xs
 rwa [show (mapV Bk).length = Bk.length by unfold mapV; simp] at this
theorem noneC (h : H) (e : Nat) : PushC P (.enter 21 [.int .i64 (.ofNat e)] h) (SaysG h (.tuple [.str [], .bool false, .int .i64 (.ofNat e)])) := by
 have e0 : bytesOf { data := #[] } = [] := rfl
 refine pushC_of_codeW (fn := Tryz.f21) (c := bodyC Tryz.f21) Tryz.func21 rfl ?_
 show codeW P 21 6 none _ _ _ _ _
 refine codeW_root ?_
 repeat' (first | ((with_reducible refine st1 ?_); (conv => whnf); (with_reducible refine ⟨?_⟩)) | ((with_reducible refine retW_intro rfl ?_); (conv => arg 2; whnf)) | ((with_reducible first | refine iB ?_ ?_ | refine gWt ?_ ?_ | refine gWf ?_ ?_) <;> intro hb <;> (try simp only [hb])) | (simp only [B, F, reduceLT, reduceLeDiff, reduceEqDiff, reduceAdd, reduceMul, reduceSub, ↓reduceIte, eq_self, e0]))
 exact ⟨rfl, Og.refl _ _⟩
theorem Og.alloc {h h1 : H} {S : List Nat} (a : Og h h1 S) (o : AObj) : Og h (h1.alloc o) S := ⟨⟨Nat.le_succ_of_le a.1.1, fun c hc hn => by
 show (h1.t.set h1.nx (some o)).get c = _
 rw [T.get_set, if_neg (by have := a.1.1; omega)]; exact a.1.2 c hc hn⟩, a.2⟩
theorem mk52 (tm : T AV) (h : H) : execA P tm h (.makeMap 53 none) = .val (.map h.nx) (h.alloc (.map [] 0)):= by simp only [execA, u52a, evalO]
theorem newC (h : H) : PushC P (.enter 5 [] h) fun v h' => v = .ptr (h.nx + 1) 0 ∧ Og h h' [] ∧ BkAt h' (h.nx + 1) h.nx [] := by
 obtain ⟨h1, h1e⟩ : ∃ h1, h1 = h.alloc (.map [] 0) := ⟨_, rfl⟩
 have o1 : Og h h1 []:= by rw [h1e]; exact (Og.refl _ _).alloc _
 have x1 : h1.nx = h.nx + 1:= by rw [h1e]; rfl
 have m1 : MapK encU h1 h.nx []:= by rw [h1e]; exact newMap h encU
 refine pushC_of_codeW (fn := Tryz.f5) (c := bodyC Tryz.f5) Tryz.func5 rfl ?_
 show codeW P 5 4 none _ _ _ _ _
 refine codeW_root ?_
 repeat' (first | ((with_reducible refine st1 ?_); (conv => whnf); (with_reducible refine ⟨?_⟩)) | ((with_reducible refine retW_intro rfl ?_); (conv => arg 2; whnf)) | ((with_reducible first | refine iB ?_ ?_ | refine gWt ?_ ?_ | refine gWf ?_ ?_) <;> intro hb <;> (try simp only [hb])) | (simp only [B, F, reduceLT, reduceLeDiff, reduceEqDiff, reduceAdd, reduceMul, reduceSub, ↓reduceIte, eq_self, mk52, ← h1e, x1]))
 have o2 : Og h1 (h1.newCells 55 [.map h.nx]) [] := (Og.refl _ _).new _ _
 exact ⟨o1.t o2, by rw [nx_new]; omega, by rw [cellAt_new, if_pos x1.symm]; rfl, m1.keep o2.1 (by simp), by omega⟩
theorem lenC (h : H) (b r : Nat) (Bk : List (Nat × Lst)) (k : BkAt h b r Bk) : PushC P (.enter 15 [.ptr b 0] h) (SaysG h (.int .i64 (.ofNat Bk.length))) := by
 have c0 := k.c0
 have hl := lenB k
 refine pushC_of_codeW (fn := Tryz.f15) (c := bodyC Tryz.f15) Tryz.func15 rfl ?_
 show codeW P 15 10 none _ _ _ _ _
 refine codeW_root ?_
 repeat' (first | ((with_reducible refine st1 ?_); (conv => whnf); (with_reducible refine ⟨?_⟩)) | ((with_reducible refine retW_intro rfl ?_); (conv => arg 2; whnf)) | ((with_reducible first | refine iB ?_ ?_ | refine gWt ?_ ?_ | refine gWf ?_ ?_) <;> intro hb <;> (try simp only [hb])) | (simp only [B, F, reduceLT, reduceLeDiff, reduceEqDiff, reduceAdd, reduceMul, reduceSub, ↓reduceIte, eq_self, c0, hl]))
 exact ⟨rfl, Og.refl _ _⟩
def seenE (Bk : List (Nat × Lst)) (c num : Nat) : List Nat × Bool × Nat :=
 if c = 0 ∨ 281474976710656 ≤ c ∨ num = 0 then ([], false, 2)
 else match getB c Bk with
  | some (n, r) => if num = n then (r, true, 0) else if num < n then ([], false, 13) else if n + 1 < num then ([], false, 2) else ([], false, 0)
  | none => if 1 < num then ([], false, 2) else if 64 ≤ Bk.length then ([], false, 18) else ([], false, 0)
def seenV (x : List Nat × Bool × Nat) : AV := .tuple [.str x.1, .bool x.2.1, .int .i64 (.ofNat x.2.2)]
set_option maxHeartbeats 4000000 in
theorem seenC (h : H) (b r : Nat) (Bk : List (Nat × Lst)) (k : BkAt h b r Bk) (c num : Nat) (hB : ∀ n s, getB c Bk = some (n, s) → n < 1000000) : PushC P (.enter 7 [.ptr b 0, .int .u64 (.ofNat c), .int .u64 (.ofNat num)] h) (SaysG h (seenV (seenE Bk c num))) := by
 have c0 := k.c0
 have lk := lookC k c
 have e0 : bytesOf { data := #[] } = [] := rfl
 obtain ⟨⟨n, s⟩, hx⟩ : ∃ x, x = (getB c Bk).getD (0, []) := ⟨_, rfl⟩
 obtain ⟨is, hi⟩ : ∃ is, is = (getB c Bk).isSome := ⟨_, rfl⟩
 rw [← hx, ← hi] at lk
 unfold lsA at lk
 have hn : n < 1000000 := by
  cases q : getB c Bk with
  | none => rw [q] at hx; cases hx; omega
  | some x =>
   obtain ⟨n', s'⟩ := x
   rw [q] at hx; cases hx
   exact hB n s q
 obtain ⟨h1, h1e⟩ : ∃ h1, h1 = (h.newCells 65 [.int .u64 (.ofNat 0), .str []]).sts h.nx 0 [.int .u64 (.ofNat n), .str s] := ⟨_, rfl⟩
 have o1 : Og h h1 []:= by rw [h1e]; exact ((Og.refl _ _).new _ _).sts (.inr (Nat.le_refl _))
 have z0 : cellAt h1 h.nx 0 = some (.int .u64 (.ofNat n)):= by rw [h1e, cellAt_sts (by rw [wrAt_new, if_pos rfl]), if_pos ⟨rfl, Nat.zero_le _, by simp⟩]; rfl
 have z1 : cellAt h1 h.nx 1 = some (.str s):= by rw [h1e, cellAt_sts (by rw [wrAt_new, if_pos rfl]), if_pos ⟨rfl, Nat.zero_le _, by simp⟩]; rfl
 have k1 := k.keep o1 (by simp) (by simp)
 have c1 := k1.c0
 have hl := lenB k1
 have wn : wrapF .u64 (Int.ofNat n + Int.ofNat 1) = Int.ofNat (n + 1) := u64_add (by omega)
 unfold seenE
 refine pushC_of_codeW (fn := Tryz.f7) (c := bodyC Tryz.f7) Tryz.func7 rfl ?_
 show codeW P 7 91 none _ _ _ _ _
 refine codeW_root ?_
 by_cases q1 : c = 0
 ·have d1 : decide (c = 0) = true := decide_eq_true q1
  rw [if_pos (.inl q1)]
  repeat' (first | ((with_reducible refine st1 ?_); (conv => whnf); (with_reducible refine ⟨?_⟩)) | ((with_reducible refine retW_intro rfl ?_); (conv => arg 2; whnf)) | ((with_reducible first | refine iB ?_ ?_ | refine gWt ?_ ?_ | refine gWf ?_ ?_) <;> intro hb <;> (try simp only [hb])) | (simp only [B, F, reduceLT, reduceLeDiff, reduceEqDiff, reduceAdd, reduceMul, reduceSub, ↓reduceIte, eq_self, c0, e0, @ex_lookup, lk, ← h1e, z0, z1, wn, d1]))
  refine ((noneC h1 2).call P).mono P ?_
  rintro v h2 ⟨rfl, o2⟩
  repeat' (first | ((with_reducible refine st1 ?_); (conv => whnf); (with_reducible refine ⟨?_⟩)) | ((with_reducible refine retW_intro rfl ?_); (conv => arg 2; whnf)) | ((with_reducible first | refine iB ?_ ?_ | refine gWt ?_ ?_ | refine gWf ?_ ?_) <;> intro hb <;> (try simp only [hb])) | (simp only [B, F, reduceLT, reduceLeDiff, reduceEqDiff, reduceAdd, reduceMul, reduceSub, ↓reduceIte, eq_self]))
  exact ⟨rfl, o1.t o2⟩
 have d1 : decide (c = 0) = false := decide_eq_false q1
 by_cases q2 : 281474976710656 ≤ c
 ·have d2 : decide (281474976710656 ≤ c) = true := decide_eq_true q2
  rw [if_pos (.inr (.inl q2))]
  repeat' (first | ((with_reducible refine st1 ?_); (conv => whnf); (with_reducible refine ⟨?_⟩)) | ((with_reducible refine retW_intro rfl ?_); (conv => arg 2; whnf)) | ((with_reducible first | refine iB ?_ ?_ | refine gWt ?_ ?_ | refine gWf ?_ ?_) <;> intro hb <;> (try simp only [hb])) | (simp only [B, F, reduceLT, reduceLeDiff, reduceEqDiff, reduceAdd, reduceMul, reduceSub, ↓reduceIte, eq_self, c0, e0, @ex_lookup, lk, ← h1e, z0, z1, wn, d1, d2]))
  refine ((noneC h1 2).call P).mono P ?_
  rintro v h2 ⟨rfl, o2⟩
  repeat' (first | ((with_reducible refine st1 ?_); (conv => whnf); (with_reducible refine ⟨?_⟩)) | ((with_reducible refine retW_intro rfl ?_); (conv => arg 2; whnf)) | ((with_reducible first | refine iB ?_ ?_ | refine gWt ?_ ?_ | refine gWf ?_ ?_) <;> intro hb <;> (try simp only [hb])) | (simp only [B, F, reduceLT, reduceLeDiff, reduceEqDiff, reduceAdd, reduceMul, reduceSub, ↓reduceIte, eq_self]))
  exact ⟨rfl, o1.t o2⟩
 have d2 : decide (281474976710656 ≤ c) = false := decide_eq_false q2
 by_cases q3 : num = 0
 ·have d3 : decide (num = 0) = true := decide_eq_true q3
  rw [if_pos (.inr (.inr q3))]
  repeat' (first | ((with_reducible refine st1 ?_); (conv => whnf); (with_reducible refine ⟨?_⟩)) | ((with_reducible refine retW_intro rfl ?_); (conv => arg 2; whnf)) | ((with_reducible first | refine iB ?_ ?_ | refine gWt ?_ ?_ | refine gWf ?_ ?_) <;> intro hb <;> (try simp only [hb])) | (simp only [B, F, reduceLT, reduceLeDiff, reduceEqDiff, reduceAdd, reduceMul, reduceSub, ↓reduceIte, eq_self, c0, e0, @ex_lookup, lk, ← h1e, z0, z1, wn, d1, d2, d3]))
  refine ((noneC h1 2).call P).mono P ?_
  rintro v h2 ⟨rfl, o2⟩
  repeat' (first | ((with_reducible refine st1 ?_); (conv => whnf); (with_reducible refine ⟨?_⟩)) | ((with_reducible refine retW_intro rfl ?_); (conv => arg 2; whnf)) | ((with_reducible first | refine iB ?_ ?_ | refine gWt ?_ ?_ | refine gWf ?_ ?_) <;> intro hb <;> (try simp only [hb])) | (simp only [B, F, reduceLT, reduceLeDiff, reduceEqDiff, reduceAdd, reduceMul, reduceSub, ↓reduceIte, eq_self]))
  exact ⟨rfl, o1.t o2⟩
 have d3 : decide (num = 0) = false := decide_eq_false q3
 rw [if_neg (by omega)]
 cases hg : getB c Bk with
 | some x =>
  rw [hg] at hx hi
  cases hx
  obtain rfl : is = true := hi
  simp only
  by_cases q4 : num = n
  ·have d4 : decide (num = n) = true := decide_eq_true q4
   rw [if_pos q4]
   repeat' (first | ((with_reducible refine st1 ?_); (conv => whnf); (with_reducible refine ⟨?_⟩)) | ((with_reducible refine retW_intro rfl ?_); (conv => arg 2; whnf)) | ((with_reducible first | refine iB ?_ ?_ | refine gWt ?_ ?_ | refine gWf ?_ ?_) <;> intro hb <;> (try simp only [hb])) | (simp only [B, F, reduceLT, reduceLeDiff, reduceEqDiff, reduceAdd, reduceMul, reduceSub, ↓reduceIte, eq_self, c0, e0, @ex_lookup, lk, ← h1e, z0, z1, wn, d1, d2, d3, d4]))
   exact ⟨rfl, o1⟩
  have d4 : decide (num = n) = false := decide_eq_false q4
  rw [if_neg q4]
  by_cases q5 : num < n
  ·have d5 : decide (num < n) = true := decide_eq_true q5
   rw [if_pos q5]
   repeat' (first | ((with_reducible refine st1 ?_); (conv => whnf); (with_reducible refine ⟨?_⟩)) | ((with_reducible refine retW_intro rfl ?_); (conv => arg 2; whnf)) | ((with_reducible first | refine iB ?_ ?_ | refine gWt ?_ ?_ | refine gWf ?_ ?_) <;> intro hb <;> (try simp only [hb])) | (simp only [B, F, reduceLT, reduceLeDiff, reduceEqDiff, reduceAdd, reduceMul, reduceSub, ↓reduceIte, eq_self, c0, e0, @ex_lookup, lk, ← h1e, z0, z1, wn, d1, d2, d3, d4, d5]))
   refine ((noneC h1 13).call P).mono P ?_
   rintro v h2 ⟨rfl, o2⟩
   repeat' (first | ((with_reducible refine st1 ?_); (conv => whnf); (with_reducible refine ⟨?_⟩)) | ((with_reducible refine retW_intro rfl ?_); (conv => arg 2; whnf)) | ((with_reducible first | refine iB ?_ ?_ | refine gWt ?_ ?_ | refine gWf ?_ ?_) <;> intro hb <;> (try simp only [hb])) | (simp only [B, F, reduceLT, reduceLeDiff, reduceEqDiff, reduceAdd, reduceMul, reduceSub, ↓reduceIte, eq_self]))
   exact ⟨rfl, o1.t o2⟩
  have d5 : decide (num < n) = false := decide_eq_false q5
  rw [if_neg q5]
  by_cases q6 : n + 1 < num
  ·have d6 : decide (n + 1 < num) = true := decide_eq_true q6
   rw [if_pos q6]
   repeat' (first | ((with_reducible refine st1 ?_); (conv => whnf); (with_reducible refine ⟨?_⟩)) | ((with_reducible refine retW_intro rfl ?_); (conv => arg 2; whnf)) | ((with_reducible first | refine iB ?_ ?_ | refine gWt ?_ ?_ | refine gWf ?_ ?_) <;> intro hb <;> (try simp only [hb])) | (simp only [B, F, reduceLT, reduceLeDiff, reduceEqDiff, reduceAdd, reduceMul, reduceSub, ↓reduceIte, eq_self, c0, e0, @ex_lookup, lk, ← h1e, z0, z1, wn, d1, d2, d3, d4, d5, d6]))
   refine ((noneC h1 2).call P).mono P ?_
   rintro v h2 ⟨rfl, o2⟩
   repeat' (first | ((with_reducible refine st1 ?_); (conv => whnf); (with_reducible refine ⟨?_⟩)) | ((with_reducible refine retW_intro rfl ?_); (conv => arg 2; whnf)) | ((with_reducible first | refine iB ?_ ?_ | refine gWt ?_ ?_ | refine gWf ?_ ?_) <;> intro hb <;> (try simp only [hb])) | (simp only [B, F, reduceLT, reduceLeDiff, reduceEqDiff, reduceAdd, reduceMul, reduceSub, ↓reduceIte, eq_self]))
   exact ⟨rfl, o1.t o2⟩
  have d6 : decide (n + 1 < num) = false := decide_eq_false q6
  rw [if_neg q6]
  repeat' (first | ((with_reducible refine st1 ?_); (conv => whnf); (with_reducible refine ⟨?_⟩)) | ((with_reducible refine retW_intro rfl ?_); (conv => arg 2; whnf)) | ((with_reducible first | refine iB ?_ ?_ | refine gWt ?_ ?_ | refine gWf ?_ ?_) <;> intro hb <;> (try simp only [hb])) | (simp only [B, F, reduceLT, reduceLeDiff, reduceEqDiff, reduceAdd, reduceMul, reduceSub, ↓reduceIte, eq_self, c0, e0, @ex_lookup, lk, ← h1e, z0, z1, wn, d1, d2, d3, d4, d5, d6, Bool.not_true]))
  refine ((noneC h1 0).call P).mono P ?_
  rintro v h2 ⟨rfl, o2⟩
  repeat' (first | ((with_reducible refine st1 ?_); (conv => whnf); (with_reducible refine ⟨?_⟩)) | ((with_reducible refine retW_intro rfl ?_); (conv => arg 2; whnf)) | ((with_reducible first | refine iB ?_ ?_ | refine gWt ?_ ?_ | refine gWf ?_ ?_) <;> intro hb <;> (try simp only [hb])) | (simp only [B, F, reduceLT, reduceLeDiff, reduceEqDiff, reduceAdd, reduceMul, reduceSub, ↓reduceIte, eq_self]))
  exact ⟨rfl, o1.t o2⟩
 | none =>
  rw [hg] at hx hi
  cases hx
  obtain rfl : is = false := hi
  simp only
  have d5 : decide (num < 0) = false := decide_eq_false (by omega)
  by_cases q6 : 1 < num
  ·have d6 : decide (0 + 1 < num) = true := decide_eq_true (by omega)
   have d7 : decide (1 < num) = true := decide_eq_true (by omega)
   rw [if_pos q6]
   repeat' (first | ((with_reducible refine st1 ?_); (conv => whnf); (with_reducible refine ⟨?_⟩)) | ((with_reducible refine retW_intro rfl ?_); (conv => arg 2; whnf)) | ((with_reducible first | refine iB ?_ ?_ | refine gWt ?_ ?_ | refine gWf ?_ ?_) <;> intro hb <;> (try simp only [hb])) | (simp only [B, F, reduceLT, reduceLeDiff, reduceEqDiff, reduceAdd, reduceMul, reduceSub, ↓reduceIte, eq_self, c0, e0, @ex_lookup, lk, ← h1e, z0, z1, wn, d1, d2, d3, d5, d6, d7]))
   refine ((noneC h1 2).call P).mono P ?_
   rintro v h2 ⟨rfl, o2⟩
   repeat' (first | ((with_reducible refine st1 ?_); (conv => whnf); (with_reducible refine ⟨?_⟩)) | ((with_reducible refine retW_intro rfl ?_); (conv => arg 2; whnf)) | ((with_reducible first | refine iB ?_ ?_ | refine gWt ?_ ?_ | refine gWf ?_ ?_) <;> intro hb <;> (try simp only [hb])) | (simp only [B, F, reduceLT, reduceLeDiff, reduceEqDiff, reduceAdd, reduceMul, reduceSub, ↓reduceIte, eq_self]))
   exact ⟨rfl, o1.t o2⟩
  have d6 : decide (0 + 1 < num) = false := decide_eq_false (by omega)
  have d7 : decide (1 < num) = false := decide_eq_false (by omega)
  rw [if_neg q6]
  by_cases q8 : 64 ≤ Bk.length
  ·have d8 : decide (64 ≤ Bk.length) = true := decide_eq_true q8
   rw [if_pos q8]
   repeat' (first | ((with_reducible refine st1 ?_); (conv => whnf); (with_reducible refine ⟨?_⟩)) | ((with_reducible refine retW_intro rfl ?_); (conv => arg 2; whnf)) | ((with_reducible first | refine iB ?_ ?_ | refine gWt ?_ ?_ | refine gWf ?_ ?_) <;> intro hb <;> (try simp only [hb])) | (simp only [B, F, reduceLT, reduceLeDiff, reduceEqDiff, reduceAdd, reduceMul, reduceSub, ↓reduceIte, eq_self, c0, e0, @ex_lookup, lk, ← h1e, z0, z1, wn, d1, d2, d3, d5, d6, d7, d8, c1, hl, Bool.not_false]))
   refine ((noneC h1 18).call P).mono P ?_
   rintro v h2 ⟨rfl, o2⟩
   repeat' (first | ((with_reducible refine st1 ?_); (conv => whnf); (with_reducible refine ⟨?_⟩)) | ((with_reducible refine retW_intro rfl ?_); (conv => arg 2; whnf)) | ((with_reducible first | refine iB ?_ ?_ | refine gWt ?_ ?_ | refine gWf ?_ ?_) <;> intro hb <;> (try simp only [hb])) | (simp only [B, F, reduceLT, reduceLeDiff, reduceEqDiff, reduceAdd, reduceMul, reduceSub, ↓reduceIte, eq_self]))
   exact ⟨rfl, o1.t o2⟩
  have d8 : decide (64 ≤ Bk.length) = false := decide_eq_false q8
  rw [if_neg q8]
  repeat' (first | ((with_reducible refine st1 ?_); (conv => whnf); (with_reducible refine ⟨?_⟩)) | ((with_reducible refine retW_intro rfl ?_); (conv => arg 2; whnf)) | ((with_reducible first | refine iB ?_ ?_ | refine gWt ?_ ?_ | refine gWf ?_ ?_) <;> intro hb <;> (try simp only [hb])) | (simp only [B, F, reduceLT, reduceLeDiff, reduceEqDiff, reduceAdd, reduceMul, reduceSub, ↓reduceIte, eq_self, c0, e0, @ex_lookup, lk, ← h1e, z0, z1, wn, d1, d2, d3, d5, d6, d7, d8, c1, hl, Bool.not_false]))
  refine ((noneC h1 0).call P).mono P ?_
  rintro v h2 ⟨rfl, o2⟩
  repeat' (first | ((with_reducible refine st1 ?_); (conv => whnf); (with_reducible refine ⟨?_⟩)) | ((with_reducible refine retW_intro rfl ?_); (conv => arg 2; whnf)) | ((with_reducible first | refine iB ?_ ?_ | refine gWt ?_ ?_ | refine gWf ?_ ?_) <;> intro hb <;> (try simp only [hb])) | (simp only [B, F, reduceLT, reduceLeDiff, reduceEqDiff, reduceAdd, reduceMul, reduceSub, ↓reduceIte, eq_self]))
  exact ⟨rfl, o1.t o2⟩
end
end Go.Proofs.YtllmfnedkhiomaaGreatDoor.S

namespace Go.Proofs.YtllmfnedkhiomaaGreatDoor.S
open Go Go.AX
noncomputable section
set_option maxRecDepth 100000
abbrev encS : List Nat → AV := fun s => .str s
theorem u31a : P.underlying 25 = some (.map 9 9):= by kernel_rfl
theorem k9 : KeyT P 9 encS := keyT_str u9a
def outA (c : Nat) : Nat → List (List Nat × AV)
 | 0 => []
 | i + 1 => mapPut (keyP c i) (.str []) (outA c i)
def outB (c : Nat) (s : List Nat) (L : List (List Nat × AV)) : Nat → List (List Nat × AV)
 | 0 => L
 | i + 1 => mapPut (keyP c i) (.str (pieceP s i)) (mapDel (keyP c i) (outB c s L i))
theorem piecC (h : H) (c num : Nat) (r : List Nat) : PushC P (.enter 22 [.agg [.int .u64 (.ofNat num), .str r], .int .u64 (.ofNat c)] h) fun v h' => v = .func 38 [] [.ptr h.nx 0, .ptr (h.nx + 1) 0] ∧ Og h h' [] ∧ h'.nx = h.nx + 2 ∧
  cellAt h' h.nx 0 = some (.int .u64 (.ofNat num)) ∧ cellAt h' h.nx 1 = some (.str r) ∧ cellAt h' (h.nx + 1) 0 = some (.int .u64 (.ofNat c)) := by
 refine pushC_of_codeW (fn := Tryz.f22) (c := bodyC Tryz.f22) Tryz.func22 rfl ?_
 show codeW P 22 6 none _ _ _ _ _
 refine codeW_root ?_
 repeat' (first | ((with_reducible refine st1 ?_); (conv => whnf); (with_reducible refine ⟨?_⟩)) | ((with_reducible refine retW_intro rfl ?_); (conv => arg 2; whnf)) | ((with_reducible first | refine iB ?_ ?_ | refine gWt ?_ ?_ | refine gWf ?_ ?_) <;> intro hb <;> (try simp only [hb])) | (simp only [B, F, reduceLT, reduceLeDiff, reduceEqDiff, reduceAdd, reduceMul, reduceSub, ↓reduceIte, eq_self]))
 exact ((Og.refl _ _).new _ _).new _ _
structure OJ (hk : H) (ro : Nat) (R : ALoop) (L : List (List Nat × AV)) (h : H) : Prop where
 nx : hk.nx + 2 ≤ h.nx
 old : ∀ b, b < hk.nx → b ≠ ro → h.t.get b = hk.t.get b
 lp : h.t.get (hk.nx + 1) = some (.loop R)
 df : h.t.get hk.nx = some (.deferred (some []))
 mp : MapK encS h ro L
 g : h.g = hk.g
theorem OJ.keep {hk : H} {ro : Nat} {R : ALoop} {L : List (List Nat × AV)} {h h' : H} (j : OJ hk ro R L h) (o : Og h h' []) : OJ hk ro R L h' :=
 ⟨Nat.le_trans j.nx o.1.1, fun b hb hn => (o.1.2 b (by have := j.nx; omega) (by simp)).trans (j.old b hb hn), (o.1.2 _ (by have := j.nx; omega) (by simp)).trans j.lp, (o.1.2 _ (by have := j.nx; omega) (by simp)).trans j.df, j.mp.keep o.1 (by simp), o.2.trans j.g⟩
theorem OJ.put {hk : H} {ro : Nat} {R : ALoop} {L L' : List (List Nat × AV)} {h h' : H} (j : OJ hk ro R L h) (o : Only h h' [ro]) (hro : ro < hk.nx) (m : MapK encS h' ro L') (hg : h'.g = h.g) : OJ hk ro R L' h' :=
 ⟨Nat.le_trans j.nx o.1, fun b hb hn => (o.2 b (by have := j.nx; omega) (by simp [hn])).trans (j.old b hb hn), (o.2 _ (by have := j.nx; omega) (by simp; omega)).trans j.lp, (o.2 _ (by have := j.nx; omega) (by simp; omega)).trans j.df, m, hg.trans j.g⟩
theorem OJ.state {hk : H} {ro : Nat} {R R' : ALoop} {L : List (List Nat × AV)} {h : H} (j : OJ hk ro R L h) (hro : ro < hk.nx) : OJ hk ro R' L (h.obj (hk.nx + 1) (.loop R')) :=
 ⟨j.nx, fun b hb hn => by rw [get_obj_ne (by omega)]; exact j.old b hb hn, get_obj_self _ _, by rw [get_obj_ne (by omega)]; exact j.df, j.mp.get (Nat.le_refl _) (get_obj_ne (by omega) _), j.g⟩
noncomputable abbrev loopA (hk : H) (tm : T AV) : ALoop := loopR 8 76 tm [52, 53] (codeI (bodyC Tryz.f8) [0, 0, 1, 0, 1, 1, 0, 1, 1, 1, 1]) (codeI (bodyC Tryz.f8) [1, 0, 1, 0, 1, 1, 0, 1, 1, 1, 1]) hk.nx .ready
theorem roundA (hk : H) (ro bo c : Nat) (tm : T AV) (t13 : tm.get 13 = some (.ptr bo 0)) (cb : cellAt hk bo 0 = some (.map ro)) (hbo : bo < hk.nx) (hro : ro < hk.nx) (hne : bo ≠ ro) (i : Nat) (h : H) (key p : List Nat) (L : List (List Nat × AV)) (hj : OJ hk ro (loopA hk tm) L h) :
  PushC P (.round (hk.nx + 1) [.str key, .str p] h) fun v h' => v = .bool true ∧ OJ hk ro (loopA hk tm) (mapPut key (.str []) L) h' := by
 refine round_walk (tm := (tm.set 52 (some (.str key))).set 53 (some (.str p))) hj.lp rfl ?_
 show codeW P 8 76 (some (hk.nx + 1)) (codeI (bodyC Tryz.f8) [0, 0, 1, 0, 1, 1, 0, 1, 1, 1, 1]) _ _ _ _
 repeat' (first | ((with_reducible refine st1 ?_); (conv => whnf); (with_reducible refine ⟨?_⟩)) | ((with_reducible refine retW_intro rfl ?_); (conv => arg 2; whnf)) | ((with_reducible first | refine iB ?_ ?_ | refine gWt ?_ ?_ | refine gWf ?_ ?_) <;> intro hb <;> (try simp only [hb])) | (simp only [B, xB, F, reduceLT, reduceLeDiff, reduceEqDiff, reduceAdd, reduceMul, reduceSub, ↓reduceIte, eq_self]))
 refine asg_norm hj.lp rfl ?_
 show codeW P 8 76 (some (hk.nx + 1)) (codeI (bodyC Tryz.f8) [1, 0, 1, 0, 1, 1, 0, 1, 1, 1, 1]) _ _ _ _
 have j1 : OJ hk ro { loopA hk tm with state := .busy } L (h.obj (hk.nx + 1) (.loop { loopA hk tm with state := .busy })) := hj.state hro
 obtain ⟨h1, e1⟩ : ∃ h1, h1 = h.obj (hk.nx + 1) (.loop { loopA hk tm with state := .busy }) := ⟨_, rfl⟩
 rw [← e1] at j1
 have cb1 : cellAt h1 bo 0 = some (.map ro):= by rw [cellAt_of_get (j1.old bo hbo hne)]; exact cb
 obtain ⟨h2, hu, m2, x2, o2, g2⟩ := update_k u31a k9 j1.mp key (.str [])
 have e0 : bytesOf { data := #[] } = [] := rfl
 rw [← e1]
 repeat' (first | ((with_reducible refine st1 ?_); (conv => whnf); (with_reducible refine ⟨?_⟩)) | ((with_reducible refine retW_intro rfl ?_); (conv => arg 2; whnf)) | ((with_reducible first | refine iB ?_ ?_ | refine gWt ?_ ?_ | refine gWf ?_ ?_) <;> intro hb <;> (try simp only [hb])) | (simp only [B, xB, F, reduceLT, reduceLeDiff, reduceEqDiff, reduceAdd, reduceMul, reduceSub, ↓reduceIte, eq_self, t13, cb1, @ex_mapUpdate, e0, hu, oH_some]))
 have j2 := j1.put o2 hro m2 g2
 exact roundEnd_norm (r := loopA hk tm) j2.lp rfl rfl ⟨rfl, j2.state hro⟩
theorem Gl.hk {h hk : H} {ro : Nat} (g : Gl hk) (hx : hk.nx ≤ h.nx) (old : ∀ b, b < hk.nx → b ≠ ro → h.t.get b = hk.t.get b) (hr : ro ≠ 7) (hg : h.g = hk.g) : Gl h :=
 ⟨by rw [hg]; exact g.g, by rw [cellAt_of_get (old 7 g.x (fun e => hr e.symm))]; exact g.c, Nat.lt_of_lt_of_le g.x hx⟩
theorem loopAC (hk : H) (ro bo b1 b2 c num : Nat) (r : List Nat) (ds : List Nat) (tm : T AV) (K : KQ) (t51 : tm.get 51 = some (.func 38 [] [.ptr b1 0, .ptr b2 0])) (t13 : tm.get 13 = some (.ptr bo 0)) (cb : cellAt hk bo 0 = some (.map ro)) (hbo : bo < hk.nx) (hne : bo ≠ ro) (gl : Gl hk) (hr3 : ro ≠ 7)
  (mp : MapK encS hk ro []) (k0 : cellAt hk b1 0 = some (.int .u64 (.ofNat num))) (k1 : cellAt hk b1 1 = some (.str r)) (k2 : cellAt hk b2 0 = some (.int .u64 (.ofNat c))) (hb1 : b1 < hk.nx) (hb2 : b2 < hk.nx) (n2 : b2 ≠ ro) (hn : num < M64) (hr : r.length < 5000) (hc : c < M64)
  (hK : ∀ h2, hk.nx + 2 ≤ h2.nx → (∀ b, b < hk.nx → b ≠ ro → h2.t.get b = hk.t.get b) → h2.t.get hk.nx = some (.deferred (some [])) → h2.g = hk.g → MapK encS h2 ro (outA c (cntP (textP num r))) → K .norm (hk.nx :: ds) tm h2) :
  codeW P 8 76 none (codeI (bodyC Tryz.f8) [0, 1, 0, 1, 1, 0, 1, 1, 1, 1]) ds tm hk K := by
 have hro := mp.lt
 refine st_rf rfl (f := .tmp 51) (ps := #[52, 53]) rfl rfl ?_
 refine rf_walk (g := 38) (cap := [.ptr b1 0, .ptr b2 0]) (by rw [evalA_tmp, t51]; rfl) (fun args h => callV_func 38 (by kernel_rfl) [] _ args) ?_
 have hbase : ∀ b, b < hk.nx → (loopH hk 8 76 tm [52, 53] (codeI (bodyC Tryz.f8) [0, 0, 1, 0, 1, 1, 0, 1, 1, 1, 1]) (codeI (bodyC Tryz.f8) [1, 0, 1, 0, 1, 1, 0, 1, 1, 1, 1])).t.get b = hk.t.get b := fun b hb => by rw [loopH_get, if_neg (by omega), if_neg (by omega)]
 have hJ0 : OJ hk ro (loopA hk tm) [] (loopH hk 8 76 tm [52, 53] (codeI (bodyC Tryz.f8) [0, 0, 1, 0, 1, 1, 0, 1, 1, 1, 1]) (codeI (bodyC Tryz.f8) [1, 0, 1, 0, 1, 1, 0, 1, 1, 1, 1])) :=
  ⟨by rw [loopH_nx]; omega, fun b hb _ => hbase b hb, by rw [loopH_get, if_pos rfl], by rw [loopH_get, if_neg (by omega), if_pos rfl], mp.get (by rw [loopH_nx]; omega) (hbase _ hro), rfl⟩
 refine (piecesC _ (hk.nx + 1) b1 b2 c num r hn hr hc (fun i h => OJ hk ro (loopA hk tm) (outA c i) h) (by rw [cellAt_of_get (hbase _ hb1)]; exact k0) (by rw [cellAt_of_get (hbase _ hb1)]; exact k1) (by rw [loopH_nx]; omega) (fun i h h' j o => j.keep o)
  (fun i h j => ⟨gl.hk (by have := j.nx; omega) j.old hr3 j.g, by rw [cellAt_of_get (j.old _ hb2 n2)]; exact k2, by have := j.nx; omega⟩) (fun i h j _ => roundA hk ro bo c tm t13 cb hbo hro hne i h _ _ _ j) hJ0).mono P ?_
 rintro _ h2 j
 refine ⟨j.lp, ?_⟩
 have j2 : OJ hk ro { loopA hk tm with state := .exhausted } _ _ := j.state (R' := { loopA hk tm with state := .exhausted }) hro
 exact hK _ j2.nx j2.old j2.df j2.g j2.mp
noncomputable abbrev loopB (hk : H) (tm : T AV) : ALoop := loopR 8 76 tm [62, 63] (codeI (bodyC Tryz.f8) [0, 0, 1, 0, 1, 1, 1, 1, 1, 1]) (codeI (bodyC Tryz.f8) [1, 0, 1, 0, 1, 1, 1, 1, 1, 1]) hk.nx .ready
theorem roundB (hk : H) (ro bo c : Nat) (tm : T AV) (t13 : tm.get 13 = some (.ptr bo 0)) (cb : cellAt hk bo 0 = some (.map ro)) (hbo : bo < hk.nx) (hro : ro < hk.nx) (hne : bo ≠ ro) (h : H) (key p : List Nat) (L : List (List Nat × AV)) (hj : OJ hk ro (loopB hk tm) L h) :
  PushC P (.round (hk.nx + 1) [.str key, .str p] h) fun v h' => v = .bool true ∧ OJ hk ro (loopB hk tm) (mapPut key (.str p) (mapDel key L)) h' := by
 refine round_walk (tm := (tm.set 62 (some (.str key))).set 63 (some (.str p))) hj.lp rfl ?_
 show codeW P 8 76 (some (hk.nx + 1)) (codeI (bodyC Tryz.f8) [0, 0, 1, 0, 1, 1, 1, 1, 1, 1]) _ _ _ _
 repeat' (first | ((with_reducible refine st1 ?_); (conv => whnf); (with_reducible refine ⟨?_⟩)) | ((with_reducible refine retW_intro rfl ?_); (conv => arg 2; whnf)) | ((with_reducible first | refine iB ?_ ?_ | refine gWt ?_ ?_ | refine gWf ?_ ?_) <;> intro hb <;> (try simp only [hb])) | (simp only [B, xB, F, reduceLT, reduceLeDiff, reduceEqDiff, reduceAdd, reduceMul, reduceSub, ↓reduceIte, eq_self]))
 refine asg_norm hj.lp rfl ?_
 show codeW P 8 76 (some (hk.nx + 1)) (codeI (bodyC Tryz.f8) [1, 0, 1, 0, 1, 1, 1, 1, 1, 1]) _ _ _ _
 have j1 : OJ hk ro { loopB hk tm with state := .busy } L (h.obj (hk.nx + 1) (.loop { loopB hk tm with state := .busy })) := hj.state hro
 obtain ⟨h1, e1⟩ : ∃ h1, h1 = h.obj (hk.nx + 1) (.loop { loopB hk tm with state := .busy }) := ⟨_, rfl⟩
 rw [← e1] at j1
 have cb1 : cellAt h1 bo 0 = some (.map ro):= by rw [cellAt_of_get (j1.old bo hbo hne)]; exact cb
 obtain ⟨h2, hd, m2, x2, o2, g2⟩ := bi_delete_k u31a k9 j1.mp key [9] []
 have j2 := j1.put o2 hro m2 g2
 have cb2 : cellAt h2 bo 0 = some (.map ro):= by rw [cellAt_of_get (j2.old bo hbo hne)]; exact cb
 obtain ⟨h3, hu, m3, x3, o3, g3⟩ := update_k u31a k9 j2.mp key (.str p)
 have j3 := j2.put o3 hro m3 g3
 rw [← e1]
 repeat' (first | ((with_reducible refine st1 ?_); (conv => whnf); (with_reducible refine ⟨?_⟩)) | ((with_reducible refine retW_intro rfl ?_); (conv => arg 2; whnf)) | ((with_reducible first | refine iB ?_ ?_ | refine gWt ?_ ?_ | refine gWf ?_ ?_) <;> intro hb <;> (try simp only [hb])) | (simp only [B, xB, F, reduceLT, reduceLeDiff, reduceEqDiff, reduceAdd, reduceMul, reduceSub, ↓reduceIte, eq_self, t13, cb1, cb2, @ex_mapUpdate, hd, hu, oH_some]))
 exact roundEnd_norm (r := loopB hk tm) j3.lp rfl rfl ⟨rfl, j3.state hro⟩
theorem loopBC (hk : H) (ro bo b1 b2 c num : Nat) (r : List Nat) (L0 : List (List Nat × AV)) (ds : List Nat) (tm : T AV) (K : KQ) (t61 : tm.get 61 = some (.func 38 [] [.ptr b1 0, .ptr b2 0])) (t13 : tm.get 13 = some (.ptr bo 0)) (cb : cellAt hk bo 0 = some (.map ro)) (hbo : bo < hk.nx) (hne : bo ≠ ro) (gl : Gl hk) (hr3 : ro ≠ 7)
  (mp : MapK encS hk ro L0) (k0 : cellAt hk b1 0 = some (.int .u64 (.ofNat num))) (k1 : cellAt hk b1 1 = some (.str r)) (k2 : cellAt hk b2 0 = some (.int .u64 (.ofNat c))) (hb1 : b1 < hk.nx) (hb2 : b2 < hk.nx) (n2 : b2 ≠ ro) (hn : num < M64) (hr : r.length < 5000) (hc : c < M64)
  (hK : ∀ h2, hk.nx + 2 ≤ h2.nx → (∀ b, b < hk.nx → b ≠ ro → h2.t.get b = hk.t.get b) → h2.t.get hk.nx = some (.deferred (some [])) → h2.g = hk.g → MapK encS h2 ro (outB c (textP num r) L0 (cntP (textP num r))) → K .norm (hk.nx :: ds) tm h2) :
  codeW P 8 76 none (codeI (bodyC Tryz.f8) [0, 1, 0, 1, 1, 1, 1, 1, 1]) ds tm hk K := by
 have hro := mp.lt
 refine st_rf rfl (f := .tmp 61) (ps := #[62, 63]) rfl rfl ?_
 refine rf_walk (g := 38) (cap := [.ptr b1 0, .ptr b2 0]) (by rw [evalA_tmp, t61]; rfl) (fun args h => callV_func 38 (by kernel_rfl) [] _ args) ?_
 have hbase : ∀ b, b < hk.nx → (loopH hk 8 76 tm [62, 63] (codeI (bodyC Tryz.f8) [0, 0, 1, 0, 1, 1, 1, 1, 1, 1]) (codeI (bodyC Tryz.f8) [1, 0, 1, 0, 1, 1, 1, 1, 1, 1])).t.get b = hk.t.get b := fun b hb => by rw [loopH_get, if_neg (by omega), if_neg (by omega)]
 have hJ0 : OJ hk ro (loopB hk tm) L0 (loopH hk 8 76 tm [62, 63] (codeI (bodyC Tryz.f8) [0, 0, 1, 0, 1, 1, 1, 1, 1, 1]) (codeI (bodyC Tryz.f8) [1, 0, 1, 0, 1, 1, 1, 1, 1, 1])) :=
  ⟨by rw [loopH_nx]; omega, fun b hb _ => hbase b hb, by rw [loopH_get, if_pos rfl], by rw [loopH_get, if_neg (by omega), if_pos rfl], mp.get (by rw [loopH_nx]; omega) (hbase _ hro), rfl⟩
 refine (piecesC _ (hk.nx + 1) b1 b2 c num r hn hr hc (fun i h => OJ hk ro (loopB hk tm) (outB c (textP num r) L0 i) h) (by rw [cellAt_of_get (hbase _ hb1)]; exact k0) (by rw [cellAt_of_get (hbase _ hb1)]; exact k1) (by rw [loopH_nx]; omega) (fun i h h' j o => j.keep o)
  (fun i h j => ⟨gl.hk (by have := j.nx; omega) j.old hr3 j.g, by rw [cellAt_of_get (j.old _ hb2 n2)]; exact k2, by have := j.nx; omega⟩) (fun i h j _ => roundB hk ro bo c tm t13 cb hbo hro hne h _ _ _ j) hJ0).mono P ?_
 rintro _ h2 j
 refine ⟨j.lp, ?_⟩
 have j2 : OJ hk ro { loopB hk tm with state := .exhausted } _ _ := j.state (R' := { loopB hk tm with state := .exhausted }) hro
 exact hK _ j2.nx j2.old j2.df j2.g j2.mp
end
end Go.Proofs.YtllmfnedkhiomaaGreatDoor.S

namespace Go.Proofs.YtllmfnedkhiomaaGreatDoor.S
open Go Go.AX
noncomputable section
set_option maxRecDepth 100000
theorem mk31 (tm : T AV) (h : H) : execA P tm h (.makeMap 25 none) = .val (.map h.nx) (h.alloc (.map [] 0)):= by simp only [execA, u31a, evalO]
theorem doneBad (h : H) (b r : Nat) (Bk : List (Nat × Lst)) (k : BkAt h b r Bk) (c num : Nat) (s : List Nat) (hB : ∀ n s, getB c Bk = some (n, s) → n < 1000000) (x : List Nat) (a : Bool) (e : Nat) (hs : seenE Bk c num = (x, a, e)) (he : 0 < e) :
  PushC P (.enter 8 [.ptr b 0, .int .u64 (.ofNat c), .int .u64 (.ofNat num), .str s] h) (SaysG h (.tuple [.nilmap, .int .i64 (.ofNat e)])) := by
 have d1 : decide (e = 0) = false := decide_eq_false (by omega)
 refine pushC_of_codeW (fn := Tryz.f8) (c := bodyC Tryz.f8) Tryz.func8 rfl ?_
 show codeW P 8 76 none _ _ _ _ _
 refine codeW_root ?_
 repeat' (first | ((with_reducible refine st1 ?_); (conv => whnf); (with_reducible refine ⟨?_⟩)) | ((with_reducible refine retW_intro rfl ?_); (conv => arg 2; whnf)) | ((with_reducible first | refine iB ?_ ?_ | refine gWt ?_ ?_ | refine gWf ?_ ?_) <;> intro hb <;> (try simp only [hb])) | (simp only [B, xB, F, reduceLT, reduceLeDiff, reduceEqDiff, reduceAdd, reduceMul, reduceSub, ↓reduceIte, eq_self]))
 refine ((seenC h b r Bk k c num hB).call P).mono P ?_
 rintro v h1 ⟨rfl, o1⟩
 rw [hs]
 unfold seenV
 repeat' (first | ((with_reducible refine st1 ?_); (conv => whnf); (with_reducible refine ⟨?_⟩)) | ((with_reducible refine retW_intro rfl ?_); (conv => arg 2; whnf)) | ((with_reducible first | refine iB ?_ ?_ | refine gWt ?_ ?_ | refine gWf ?_ ?_) <;> intro hb <;> (try simp only [hb])) | (simp only [B, xB, F, reduceLT, reduceLeDiff, reduceEqDiff, reduceAdd, reduceMul, reduceSub, ↓reduceIte, eq_self, d1, Bool.not_false]))
 exact ⟨rfl, o1⟩
structure DoneW (h h' : H) (b r : Nat) (Bk : List (Nat × Lst)) (c num : Nat) (s : List Nat) (ro : Nat) : Prop where
 og : Og h h' [r]
 bk : BkAt h' b r (putB c (num, s) Bk)
 ge : h.nx ≤ ro
 mp : MapK encS h' ro (outB c (textP num s) (match getB c Bk with | none => [] | some (n, r0) => outA c (cntP (textP n r0))) (cntP (textP num s)))
structure Stop7 (p : Prop) : Prop where
 go : p
theorem stop7 {ds : List Nat} {tm : T AV} {h : H} {Q : KQ} (hw : Stop7 (codeW P 8 76 none (codeI (bodyC Tryz.f8) [1, 1, 1, 1, 1]) ds tm h Q)) : codeW P 8 76 none (codeI (bodyC Tryz.f8) [1, 1, 1, 1, 1]) ds tm h Q := hw.go
theorem doneTail (hk : H) (b r ro bo c num : Nat) (Bk : List (Nat × Lst)) (s : List Nat) (L0 : List (List Nat × AV)) (ds : List Nat) (tm : T AV) (K : KQ) (t0 : tm.get 0 = some (.ptr b 0)) (t1 : tm.get 1 = some (.int .u64 (.ofNat c))) (t2 : tm.get 2 = some (.int .u64 (.ofNat num))) (t3 : tm.get 3 = some (.str s)) (t13 : tm.get 13 = some (.ptr bo 0)) (cb : cellAt hk bo 0 = some (.map ro)) (hbo : bo < hk.nx) (hne : bo ≠ ro) (gl : Gl hk) (hr3 : ro ≠ 7)
  (k : BkAt hk b r Bk) (mp : MapK encS hk ro L0) (q1 : b ≠ ro) (q2 : r ≠ ro) (q3 : bo ≠ r) (hn : num < M64) (hl : s.length ≤ 4000) (hc : c < M64)
  (hK : ∀ tm2 h2 d, hk.nx ≤ d → d < h2.nx → (∀ x, x < hk.nx → x ≠ ro → x ≠ r → h2.t.get x = hk.t.get x) → h2.t.get d = some (.deferred (some [])) → h2.g = hk.g → BkAt h2 b r (putB c (num, s) Bk) → MapK encS h2 ro (outB c (textP num s) L0 (cntP (textP num s))) →
   tm2.get 8 = some (.map ro) → tm2.get 9 = some (.int .i64 (.ofNat 0)) → K .ret (d :: ds) tm2 h2) :
  codeW P 8 76 none (codeI (bodyC Tryz.f8) [1, 1, 1, 1, 1]) ds tm hk K := by
 have hro := mp.lt
 obtain ⟨h1, h1e⟩ : ∃ h1, h1 = (hk.newCells 65 [.int .u64 (.ofNat 0), .str []]).sts hk.nx 0 [.int .u64 (.ofNat num), .str s] := ⟨_, rfl⟩
 have o1 : Og hk h1 []:= by rw [h1e]; exact ((Og.refl _ _).new _ _).sts (.inr (Nat.le_refl _))
 have x1 : h1.nx = hk.nx + 1:= by rw [h1e, nx_sts, nx_new]
 have z0 : cellAt h1 hk.nx 0 = some (.int .u64 (.ofNat num)):= by rw [h1e, cellAt_sts (by rw [wrAt_new, if_pos rfl]), if_pos ⟨rfl, Nat.zero_le _, by simp⟩]; rfl
 have z1 : cellAt h1 hk.nx 1 = some (.str s):= by rw [h1e, cellAt_sts (by rw [wrAt_new, if_pos rfl]), if_pos ⟨rfl, Nat.zero_le _, by simp⟩]; rfl
 repeat' (first | ((with_reducible refine st1 ?_); (conv => whnf); (with_reducible refine ⟨?_⟩)) | ((with_reducible refine retW_intro rfl ?_); (conv => arg 2; whnf)) | ((with_reducible first | refine iB ?_ ?_ | refine gWt ?_ ?_ | refine gWf ?_ ?_) <;> intro hb <;> (try simp only [hb])) | (simp only [B, xB, F, reduceLT, reduceLeDiff, reduceEqDiff, reduceAdd, reduceMul, reduceSub, ↓reduceIte, eq_self, t0, t1, t2, t3, ← h1e, z0, z1]))
 refine ((piecC h1 c num s).call P).mono P ?_
 rintro v h2 ⟨rfl, o2, x2, a0, a1, a2⟩
 have o02 := o1.t o2
 have lt0 := k.lt
 have ltr := k.mm.lt
 repeat' (first | ((with_reducible refine st1 ?_); (conv => whnf); (with_reducible refine ⟨?_⟩)) | ((with_reducible refine retW_intro rfl ?_); (conv => arg 2; whnf)) | ((with_reducible first | refine iB ?_ ?_ | refine gWt ?_ ?_ | refine gWf ?_ ?_) <;> intro hb <;> (try simp only [hb])) | (simp only [B, xB, F, reduceLT, reduceLeDiff, reduceEqDiff, reduceAdd, reduceMul, reduceSub, ↓reduceIte, eq_self, t0, t1, t2, t3]))
 refine loopBC h2 ro bo h1.nx (h1.nx + 1) c num s L0 ds _ _ (by simp only [B, xB, F, reduceLT, reduceLeDiff, reduceEqDiff, reduceAdd, reduceMul, reduceSub, ↓reduceIte, eq_self]) (by simp only [B, xB, F, reduceLT, reduceLeDiff, reduceEqDiff, reduceAdd, reduceMul, reduceSub, ↓reduceIte, eq_self, t13]) (kc cb o02 hbo (by simp)) (by omega) hne (gl.keep o02 (by simp)) hr3 (mp.keep o02.1 (by simp)) a0 a1 a2 (by omega) (by omega) (by omega) hn (by omega) hc ?_
 intro h3 x3 old3 df3 g3 m3
 have k3 : BkAt h3 b r Bk := ⟨by omega, by rw [cellAt_of_get (old3 b (by omega) q1), cellAt_of_get (o02.1.2 b lt0 (by simp))]; exact k.c0, (k.mm.keep o02.1 (by simp)).get (by omega) (old3 r (by omega) q2), k.ne⟩
 have c3 := k3.c0
 have y0 : cellAt h3 hk.nx 0 = some (.int .u64 (.ofNat num)):= by rw [cellAt_of_get (old3 _ (by omega) (by omega))]; exact kc z0 o2 (by omega) (by simp)
 have y1 : cellAt h3 hk.nx 1 = some (.str s):= by rw [cellAt_of_get (old3 _ (by omega) (by omega))]; exact kc z1 o2 (by omega) (by simp)
 have yb : cellAt h3 bo 0 = some (.map ro):= by rw [cellAt_of_get (old3 bo (by omega) hne)]; exact kc cb o02 hbo (by simp)
 obtain ⟨h4, hu, m4, x4, o4, g4⟩ := update_k u52a k26 k3.mm c (lsA (num, s))
 rw [put_mapV] at m4
 unfold lsA at hu
 have yb4 : cellAt h4 bo 0 = some (.map ro):= by rw [cellAt_of_get (o4.2 bo (by omega) (by simp [q3]))]; exact yb
 repeat' (first | ((with_reducible refine st1 ?_); (conv => whnf); (with_reducible refine ⟨?_⟩)) | ((with_reducible refine st_dw ?_ rfl rfl ?_ ?_); exact rfl; kernel_rfl; (conv => arg 5; whnf); (conv => arg 3; whnf)) | ((with_reducible refine retW_intro rfl ?_); (conv => arg 2; whnf)) | ((with_reducible first | refine iB ?_ ?_ | refine gWt ?_ ?_ | refine gWf ?_ ?_ | refine gXt ?_ ?_ | refine gXf ?_ ?_) <;> intro hb <;> (try simp only [hb])) | ((with_reducible show drawI _ _ _ _ _ _ _ _ _); first | ((with_reducible refine kI_rd ?_ ?_); exact rfl) | ((with_reducible apply kI_rg); exact rfl; exact rfl) | ((with_reducible refine kI_cv ?_ ?_ ?_); exact rfl; kernel_rfl) | ((with_reducible apply kI_al); exact rfl; exact rfl) | ((with_reducible refine kI_ex ?_ ?_ ?_ ?_ ?_); exact rfl; kernel_rfl; exact rfl) | ((with_reducible apply kI_eg); exact rfl; kernel_rfl; exact rfl) | ((with_reducible refine kI_nl ?_ ?_))) | ((with_reducible show eOk _ _ _ _ _ _); first | (exact eok_nil) | (refine ke_rd ?_ ?_ ?_; exact rfl) | (apply ke_rg; exact rfl; exact rfl) | (refine ke_cv ?_ ?_ ?_ ?_; exact rfl; kernel_rfl) | (apply ke_fl; exact rfl) | (apply ke_al; exact rfl; exact rfl)) | ((with_reducible refine freshIs_new ?_); kernel_rfl) | (simp only [B, xB, F, reduceLT, reduceLeDiff, reduceEqDiff, reduceAdd, reduceMul, reduceSub, ↓reduceIte, eq_self, t0, t1, t2, t3, t13, c3, y0, y1, @ex_mapUpdate, hu, oH_some, yb4]))
 refine hK _ h4 h2.nx (by omega) (by omega) (fun x hx q5 q6 => ?_) ?_ ?_ ⟨by omega, ?_, m4, k.ne⟩ (m3.keep o4 (by simp; exact fun e => q2 e.symm)) (by simp only [B, xB, F, reduceLT, reduceLeDiff, reduceEqDiff, reduceAdd, reduceMul, reduceSub, ↓reduceIte, eq_self]) (by simp only [B, xB, F, reduceLT, reduceLeDiff, reduceEqDiff, reduceAdd, reduceMul, reduceSub, ↓reduceIte, eq_self])
 ·rw [o4.2 x (by omega) (by simp [q6]), old3 x (by omega) q5, o02.1.2 x hx (by simp)]
 ·rw [o4.2 _ (by omega) (by simp; omega)]; exact df3
 ·rw [g4, g3]; exact o02.2
 ·rw [cellAt_of_get (o4.2 b (by omega) (by simp [k.ne]))]; exact c3
theorem BkAt.obj {h : H} {b r : Nat} {Bk : List (Nat × Lst)} (k : BkAt h b r Bk) {d : Nat} (h1 : d ≠ b) (h2 : d ≠ r) (o : AObj) : BkAt (h.obj d o) b r Bk :=
 ⟨k.lt, by rw [cellAt_of_get (get_obj_ne (by omega) _)]; exact k.c0, k.mm.get (Nat.le_refl _) (get_obj_ne (by omega) _), k.ne⟩
theorem MapK.obj' {κ : Type} [DecidableEq κ] {enc : κ → AV} {h : H} {r : Nat} {L : List (κ × AV)} (k : MapK enc h r L) {d : Nat} (h2 : d ≠ r) (o : AObj) : MapK enc (h.obj d o) r L := k.get (Nat.le_refl _) (get_obj_ne (by omega) _)
theorem retW_undef2 {fn : Func} {rl : List ResultVar} {h : H} {d e : Nat} {tm : T AV} {Q : AV → H → Prop} (hd : h.t.get d = some (.deferred (some []))) (he : h.t.get e = some (.deferred (some []))) (ne : d ≠ e) (hl : fn.results.toList = rl) (hw : retW P rl tm ((h.obj d (.deferred none)).obj e (.deferred none)) Q) : retK P fn Q .ret [d, e] tm h := by
 have := retW_intro (P := P) (fn := fn) hl hw
 rw [retK_ret] at this ⊢
 obtain ⟨h2, hu, r⟩ := this
 cases hu
 refine ⟨_, ?_, r⟩
 have e1 := undef_one (h := h.obj d (.deferred none)) (d := e) (by rw [get_obj_ne (by omega)]; exact he)
 unfold AX.undef
 rw [hd]
 exact e1
theorem doneOk (h : H) (b r : Nat) (Bk : List (Nat × Lst)) (k : BkAt h b r Bk) (gl : Gl h) (c num : Nat) (s : List Nat) (hB : ∀ n s, getB c Bk = some (n, s) → n < 1000000 ∧ s.length ≤ 4000) (hn : num < M64) (hl : s.length ≤ 4000) (hc : c < M64) (x : List Nat) (hs : seenE Bk c num = (x, false, 0)) :
  PushC P (.enter 8 [.ptr b 0, .int .u64 (.ofNat c), .int .u64 (.ofNat num), .str s] h) fun v h' => ∃ ro, v = .tuple [.map ro, .int .i64 (.ofNat 0)] ∧ DoneW h h' b r Bk c num s ro := by
 have d1 : decide (4000 < s.length) = false := decide_eq_false (by omega)
 refine pushC_of_codeW (fn := Tryz.f8) (c := bodyC Tryz.f8) Tryz.func8 rfl ?_
 show codeW P 8 76 none _ _ _ _ _
 refine codeW_root ?_
 repeat' (first | ((with_reducible refine st1 ?_); (conv => whnf); (with_reducible refine ⟨?_⟩)) | ((with_reducible refine st_dw ?_ rfl rfl ?_ ?_); exact rfl; kernel_rfl; (conv => arg 5; whnf); (conv => arg 3; whnf)) | ((with_reducible refine retW_intro rfl ?_); (conv => arg 2; whnf)) | ((with_reducible first | refine iB ?_ ?_ | refine gWt ?_ ?_ | refine gWf ?_ ?_ | refine gXt ?_ ?_ | refine gXf ?_ ?_) <;> intro hb <;> (try simp only [hb])) | ((with_reducible show drawI _ _ _ _ _ _ _ _ _); first | ((with_reducible refine kI_rd ?_ ?_); exact rfl) | ((with_reducible apply kI_rg); exact rfl; exact rfl) | ((with_reducible refine kI_cv ?_ ?_ ?_); exact rfl; kernel_rfl) | ((with_reducible apply kI_al); exact rfl; exact rfl) | ((with_reducible refine kI_ex ?_ ?_ ?_ ?_ ?_); exact rfl; kernel_rfl; exact rfl) | ((with_reducible apply kI_eg); exact rfl; kernel_rfl; exact rfl) | ((with_reducible refine kI_nl ?_ ?_))) | ((with_reducible show eOk _ _ _ _ _ _); first | (exact eok_nil) | (refine ke_rd ?_ ?_ ?_; exact rfl) | (apply ke_rg; exact rfl; exact rfl) | (refine ke_cv ?_ ?_ ?_ ?_; exact rfl; kernel_rfl) | (apply ke_fl; exact rfl) | (apply ke_al; exact rfl; exact rfl)) | ((with_reducible refine freshIs_new ?_); kernel_rfl) | (simp only [B, xB, F, reduceLT, reduceLeDiff, reduceEqDiff, reduceAdd, reduceMul, reduceSub, ↓reduceIte, eq_self]))
 refine ((seenC h b r Bk k c num (fun n s q => by have := (hB n s q).1; omega)).call P).mono P ?_
 rintro v h1 ⟨rfl, o1⟩
 rw [hs]
 unfold seenV
 obtain ⟨h2, h2e⟩ : ∃ h2, h2 = h1.alloc (.map [] 0) := ⟨_, rfl⟩
 have o2 : Og h h2 []:= by rw [h2e]; exact o1.alloc _
 have x2 : h2.nx = h1.nx + 1:= by rw [h2e]; rfl
 have m2 : MapK encS h2 h1.nx []:= by rw [h2e]; exact newMap h1 encS
 have k2 := k.keep o2 (by simp) (by simp)
 obtain ⟨h3, h3e⟩ : ∃ h3, h3 = (h2.newCells 25 [AV.nilmap]).sts h2.nx 0 [.map h1.nx] := ⟨_, rfl⟩
 have o23 : Og h2 h3 []:= by rw [h3e]; exact ((Og.refl _ _).new _ _).sts (.inr (Nat.le_refl _))
 have x3 : h3.nx = h2.nx + 1:= by rw [h3e, nx_sts, nx_new]
 have y3 : cellAt h3 h2.nx 0 = some (.map h1.nx):= by rw [h3e, cellAt_sts (by rw [wrAt_new, if_pos rfl]), if_pos ⟨rfl, Nat.zero_le _, by simp⟩]; rfl
 have o3 : Og h h3 [] := o2.t o23
 have k3 := k.keep o3 (by simp) (by simp)
 have c0 := k3.c0
 have lk := lookC k3 c
 obtain ⟨⟨n, r0⟩, hx⟩ : ∃ x, x = (getB c Bk).getD (0, []) := ⟨_, rfl⟩
 obtain ⟨is, hi⟩ : ∃ is, is = (getB c Bk).isSome := ⟨_, rfl⟩
 rw [← hx, ← hi] at lk
 unfold lsA at lk
 obtain ⟨h4, h4e⟩ : ∃ h4, h4 = (h3.newCells 65 [.int .u64 (.ofNat 0), .str []]).sts h3.nx 0 [.int .u64 (.ofNat n), .str r0] := ⟨_, rfl⟩
 have o34 : Og h3 h4 []:= by rw [h4e]; exact ((Og.refl _ _).new _ _).sts (.inr (Nat.le_refl _))
 have z0 : cellAt h4 h3.nx 0 = some (.int .u64 (.ofNat n)):= by rw [h4e, cellAt_sts (by rw [wrAt_new, if_pos rfl]), if_pos ⟨rfl, Nat.zero_le _, by simp⟩]; rfl
 have z1 : cellAt h4 h3.nx 1 = some (.str r0):= by rw [h4e, cellAt_sts (by rw [wrAt_new, if_pos rfl]), if_pos ⟨rfl, Nat.zero_le _, by simp⟩]; rfl
 have o4 := o3.t o34
 have gl4 := gl.keep o4 (by simp)
 have k4 := k.keep o4 (by simp) (by simp)
 have m4 : MapK encS h4 h1.nx [] := m2.keep (o23.t o34).1 (by simp)
 have y4 : cellAt h4 h2.nx 0 = some (.map h1.nx) := kc y3 o34 (by omega) (by simp)
 have x4 : h4.nx = h3.nx + 1:= by rw [h4e, nx_sts, nx_new]
 have lt0 := k.lt
 have ltr := k.mm.lt
 have le1 := o1.1.1
 have gx := gl.x
 cases hg : getB c Bk with
 | none =>
  rw [hg] at hx hi
  cases hx
  obtain rfl : is = false := hi
  repeat' (first | (with_reducible refine stop7 ?_) | ((with_reducible refine st1 ?_); (conv => whnf); (with_reducible refine ⟨?_⟩)) | ((with_reducible refine st_dw ?_ rfl rfl ?_ ?_); exact rfl; kernel_rfl; (conv => arg 5; whnf); (conv => arg 3; whnf)) | ((with_reducible refine retW_intro rfl ?_); (conv => arg 2; whnf)) | ((with_reducible first | refine iB ?_ ?_ | refine gWt ?_ ?_ | refine gWf ?_ ?_ | refine gXt ?_ ?_ | refine gXf ?_ ?_) <;> intro hb <;> (try simp only [hb])) | ((with_reducible show drawI _ _ _ _ _ _ _ _ _); first | ((with_reducible refine kI_rd ?_ ?_); exact rfl) | ((with_reducible apply kI_rg); exact rfl; exact rfl) | ((with_reducible refine kI_cv ?_ ?_ ?_); exact rfl; kernel_rfl) | ((with_reducible apply kI_al); exact rfl; exact rfl) | ((with_reducible refine kI_ex ?_ ?_ ?_ ?_ ?_); exact rfl; kernel_rfl; exact rfl) | ((with_reducible apply kI_eg); exact rfl; kernel_rfl; exact rfl) | ((with_reducible refine kI_nl ?_ ?_))) | ((with_reducible show eOk _ _ _ _ _ _); first | (exact eok_nil) | (refine ke_rd ?_ ?_ ?_; exact rfl) | (apply ke_rg; exact rfl; exact rfl) | (refine ke_cv ?_ ?_ ?_ ?_; exact rfl; kernel_rfl) | (apply ke_fl; exact rfl) | (apply ke_al; exact rfl; exact rfl)) | ((with_reducible refine freshIs_new ?_); kernel_rfl) | (simp only [B, xB, F, reduceLT, reduceLeDiff, reduceEqDiff, reduceAdd, reduceMul, reduceSub, ↓reduceIte, eq_self, d1, mk31, ← h2e, ← h3e, c0, @ex_lookup, lk, ← h4e, Bool.not_false]))
  refine ⟨?_⟩
  refine doneTail h4 b r h1.nx h2.nx c num Bk s [] [] _ _ (by simp only [B, xB, F, reduceLT, reduceLeDiff, reduceEqDiff, reduceAdd, reduceMul, reduceSub, ↓reduceIte, eq_self]) (by simp only [B, xB, F, reduceLT, reduceLeDiff, reduceEqDiff, reduceAdd, reduceMul, reduceSub, ↓reduceIte, eq_self]) (by simp only [B, xB, F, reduceLT, reduceLeDiff, reduceEqDiff, reduceAdd, reduceMul, reduceSub, ↓reduceIte, eq_self]) (by simp only [B, xB, F, reduceLT, reduceLeDiff, reduceEqDiff, reduceAdd, reduceMul, reduceSub, ↓reduceIte, eq_self]) (by simp only [B, xB, F, reduceLT, reduceLeDiff, reduceEqDiff, reduceAdd, reduceMul, reduceSub, ↓reduceIte, eq_self]) y4 (by omega) (by omega) gl4 (by omega) k4 m4 (by omega) (by omega) (by omega) hn (by omega) hc ?_
  intro tm2 h5 d hd hd2 old5 df5 g5 k5 m5 t8 t9
  refine retW_undef df5 rfl ?_
  (conv => arg 2; whnf)
  simp only [B, xB, F, reduceLT, reduceLeDiff, reduceEqDiff, reduceAdd, reduceMul, reduceSub, ↓reduceIte, eq_self, t8, t9]
  refine ⟨h1.nx, rfl, ⟨⟨by rw [nx_obj]; omega, fun y hy hn => ?_⟩, by rw [show ∀ o, (h5.obj d o).g = h5.g from fun _ => rfl, g5]; exact o4.2⟩, k5.obj (by omega) (by omega) _, by omega, by rw [hg]; exact MapK.obj' m5 (by omega) _⟩
  rw [get_obj_ne (by omega), old5 y (by omega) (by omega) (by simpa using hn)]
  exact o4.1.2 y hy (by simp)
 | some x =>
  obtain ⟨n', r0'⟩ := x
  obtain ⟨n1, n2⟩ := hB n' r0' hg
  rw [hg] at hx hi
  cases hx
  obtain rfl : is = true := hi
  repeat' (first | ((with_reducible refine st1 ?_); (conv => whnf); (with_reducible refine ⟨?_⟩)) | ((with_reducible refine st_dw ?_ rfl rfl ?_ ?_); exact rfl; kernel_rfl; (conv => arg 5; whnf); (conv => arg 3; whnf)) | ((with_reducible refine retW_intro rfl ?_); (conv => arg 2; whnf)) | ((with_reducible first | refine iB ?_ ?_ | refine gWt ?_ ?_ | refine gWf ?_ ?_ | refine gXt ?_ ?_ | refine gXf ?_ ?_) <;> intro hb <;> (try simp only [hb])) | ((with_reducible show drawI _ _ _ _ _ _ _ _ _); first | ((with_reducible refine kI_rd ?_ ?_); exact rfl) | ((with_reducible apply kI_rg); exact rfl; exact rfl) | ((with_reducible refine kI_cv ?_ ?_ ?_); exact rfl; kernel_rfl) | ((with_reducible apply kI_al); exact rfl; exact rfl) | ((with_reducible refine kI_ex ?_ ?_ ?_ ?_ ?_); exact rfl; kernel_rfl; exact rfl) | ((with_reducible apply kI_eg); exact rfl; kernel_rfl; exact rfl) | ((with_reducible refine kI_nl ?_ ?_))) | ((with_reducible show eOk _ _ _ _ _ _); first | (exact eok_nil) | (refine ke_rd ?_ ?_ ?_; exact rfl) | (apply ke_rg; exact rfl; exact rfl) | (refine ke_cv ?_ ?_ ?_ ?_; exact rfl; kernel_rfl) | (apply ke_fl; exact rfl) | (apply ke_al; exact rfl; exact rfl)) | ((with_reducible refine freshIs_new ?_); kernel_rfl) | (simp only [B, xB, F, reduceLT, reduceLeDiff, reduceEqDiff, reduceAdd, reduceMul, reduceSub, ↓reduceIte, eq_self, d1, mk31, ← h2e, ← h3e, c0, @ex_lookup, lk, ← h4e, z0, z1, Bool.not_true]))
  refine ((piecC h4 c n r0).call P).mono P ?_
  rintro v h5 ⟨rfl, o5, x5, a0, a1, a2⟩
  have o45 := o4.t o5
  repeat' (first | ((with_reducible refine st1 ?_); (conv => whnf); (with_reducible refine ⟨?_⟩)) | ((with_reducible refine st_dw ?_ rfl rfl ?_ ?_); exact rfl; kernel_rfl; (conv => arg 5; whnf); (conv => arg 3; whnf)) | ((with_reducible refine retW_intro rfl ?_); (conv => arg 2; whnf)) | ((with_reducible first | refine iB ?_ ?_ | refine gWt ?_ ?_ | refine gWf ?_ ?_ | refine gXt ?_ ?_ | refine gXf ?_ ?_) <;> intro hb <;> (try simp only [hb])) | ((with_reducible show drawI _ _ _ _ _ _ _ _ _); first | ((with_reducible refine kI_rd ?_ ?_); exact rfl) | ((with_reducible apply kI_rg); exact rfl; exact rfl) | ((with_reducible refine kI_cv ?_ ?_ ?_); exact rfl; kernel_rfl) | ((with_reducible apply kI_al); exact rfl; exact rfl) | ((with_reducible refine kI_ex ?_ ?_ ?_ ?_ ?_); exact rfl; kernel_rfl; exact rfl) | ((with_reducible apply kI_eg); exact rfl; kernel_rfl; exact rfl) | ((with_reducible refine kI_nl ?_ ?_))) | ((with_reducible show eOk _ _ _ _ _ _); first | (exact eok_nil) | (refine ke_rd ?_ ?_ ?_; exact rfl) | (apply ke_rg; exact rfl; exact rfl) | (refine ke_cv ?_ ?_ ?_ ?_; exact rfl; kernel_rfl) | (apply ke_fl; exact rfl) | (apply ke_al; exact rfl; exact rfl)) | ((with_reducible refine freshIs_new ?_); kernel_rfl) | (simp only [B, xB, F, reduceLT, reduceLeDiff, reduceEqDiff, reduceAdd, reduceMul, reduceSub, ↓reduceIte, eq_self]))
  refine loopAC h5 h1.nx h2.nx h4.nx (h4.nx + 1) c n r0 [] _ _ (by simp only [B, xB, F, reduceLT, reduceLeDiff, reduceEqDiff, reduceAdd, reduceMul, reduceSub, ↓reduceIte, eq_self]) (by simp only [B, xB, F, reduceLT, reduceLeDiff, reduceEqDiff, reduceAdd, reduceMul, reduceSub, ↓reduceIte, eq_self]) (kc y4 o5 (by omega) (by simp)) (by omega) (by omega) (gl4.keep o5 (by simp)) (by omega) (m4.keep o5.1 (by simp)) a0 a1 a2 (by omega) (by omega) (by omega) (by have : M64 = 18446744073709551616 := rfl; omega) (by omega) hc ?_
  intro h6 x6 old6 df6 g6 m6
  have k6 : BkAt h6 b r Bk := ⟨by omega, by rw [cellAt_of_get (old6 b (by omega) (by omega)), cellAt_of_get (o45.1.2 b lt0 (by simp))]; exact k.c0, (k.mm.keep o45.1 (by simp)).get (by omega) (old6 r (by omega) (by omega)), k.ne⟩
  have y6 : cellAt h6 h2.nx 0 = some (.map h1.nx):= by rw [cellAt_of_get (old6 _ (by omega) (by omega))]; exact kc y4 o5 (by omega) (by simp)
  have gl6 : Gl h6 := (gl4.keep o5 (by simp)).hk (by omega) old6 (by omega) g6
  repeat' (first | (with_reducible refine stop7 ?_) | ((with_reducible refine st1 ?_); (conv => whnf); (with_reducible refine ⟨?_⟩)) | ((with_reducible refine st_dw ?_ rfl rfl ?_ ?_); exact rfl; kernel_rfl; (conv => arg 5; whnf); (conv => arg 3; whnf)) | ((with_reducible refine retW_intro rfl ?_); (conv => arg 2; whnf)) | ((with_reducible first | refine iB ?_ ?_ | refine gWt ?_ ?_ | refine gWf ?_ ?_ | refine gXt ?_ ?_ | refine gXf ?_ ?_) <;> intro hb <;> (try simp only [hb])) | ((with_reducible show drawI _ _ _ _ _ _ _ _ _); first | ((with_reducible refine kI_rd ?_ ?_); exact rfl) | ((with_reducible apply kI_rg); exact rfl; exact rfl) | ((with_reducible refine kI_cv ?_ ?_ ?_); exact rfl; kernel_rfl) | ((with_reducible apply kI_al); exact rfl; exact rfl) | ((with_reducible refine kI_ex ?_ ?_ ?_ ?_ ?_); exact rfl; kernel_rfl; exact rfl) | ((with_reducible apply kI_eg); exact rfl; kernel_rfl; exact rfl) | ((with_reducible refine kI_nl ?_ ?_))) | ((with_reducible show eOk _ _ _ _ _ _); first | (exact eok_nil) | (refine ke_rd ?_ ?_ ?_; exact rfl) | (apply ke_rg; exact rfl; exact rfl) | (refine ke_cv ?_ ?_ ?_ ?_; exact rfl; kernel_rfl) | (apply ke_fl; exact rfl) | (apply ke_al; exact rfl; exact rfl)) | ((with_reducible refine freshIs_new ?_); kernel_rfl) | (simp only [B, xB, F, reduceLT, reduceLeDiff, reduceEqDiff, reduceAdd, reduceMul, reduceSub, ↓reduceIte, eq_self]))
  refine ⟨?_⟩
  refine doneTail h6 b r h1.nx h2.nx c num Bk s _ [h5.nx] _ _ (by simp only [B, xB, F, reduceLT, reduceLeDiff, reduceEqDiff, reduceAdd, reduceMul, reduceSub, ↓reduceIte, eq_self]) (by simp only [B, xB, F, reduceLT, reduceLeDiff, reduceEqDiff, reduceAdd, reduceMul, reduceSub, ↓reduceIte, eq_self]) (by simp only [B, xB, F, reduceLT, reduceLeDiff, reduceEqDiff, reduceAdd, reduceMul, reduceSub, ↓reduceIte, eq_self]) (by simp only [B, xB, F, reduceLT, reduceLeDiff, reduceEqDiff, reduceAdd, reduceMul, reduceSub, ↓reduceIte, eq_self]) (by simp only [B, xB, F, reduceLT, reduceLeDiff, reduceEqDiff, reduceAdd, reduceMul, reduceSub, ↓reduceIte, eq_self]) y6 (by omega) (by omega) gl6 (by omega) k6 m6 (by omega) (by omega) (by omega) hn (by omega) hc ?_
  intro tm2 h7 d hd hd2 old7 df7 g7 k7 m7 t8 t9
  refine retW_undef2 df7 (by rw [old7 _ (by omega) (by omega) (by omega)]; exact df6) (by omega) rfl ?_
  (conv => arg 2; whnf)
  simp only [B, xB, F, reduceLT, reduceLeDiff, reduceEqDiff, reduceAdd, reduceMul, reduceSub, ↓reduceIte, eq_self, t8, t9]
  refine ⟨h1.nx, rfl, ⟨⟨by rw [nx_obj, nx_obj]; omega, fun y hy hn => ?_⟩, ?_⟩, (k7.obj (by omega) (by omega) _).obj (by omega) (by omega) _, by omega, ?_⟩
  ·rw [get_obj_ne (by omega), get_obj_ne (by omega), old7 y (by omega) (by omega) (by simpa using hn), old6 y (by omega) (by omega)]
   exact o45.1.2 y hy (by simp)
  ·show h7.g = h.g
   rw [g7, g6]; exact o45.2
  ·rw [hg]; exact MapK.obj' (MapK.obj' m7 (by omega) _) (by omega) _
end
end Go.Proofs.YtllmfnedkhiomaaGreatDoor.S


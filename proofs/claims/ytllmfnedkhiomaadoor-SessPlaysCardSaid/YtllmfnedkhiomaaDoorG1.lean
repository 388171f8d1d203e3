/-
  AX: walks: ranges over maps whose keys are not known.
-/
import Derived.Test.YtllmfnedkhiomaaDoorG0
import Derived.Test.YtllmfnedkhiomaaDoorAxI
import Derived.Test.YtllmfnedkhiomaaDoorAxH
import Derived.Test.YtllmfnedkhiomaaDoorAxF
import Derived.Shelf.SortM.Plain
import Derived.Shelf.SortM.SortNone
import Derived.Ground.SlgmProg
import Derived.Test.YtllmfnedkhiomaaDoorProg
set_option linter.unusedSimpArgs false
set_option linter.unusedVariables false
set_option linter.unusedSectionVars false
open Nat (reduceLT reduceLeDiff reduceEqDiff reduceAdd reduceMul reduceSub)
namespace Go.AX
noncomputable section
open Go.RowKit
section
variable {κ : Type} {enc : κ → AV}
structure RngK (enc : κ → AV) (h : H) (it r : Nat) (L V R : List (κ × AV)) : Prop where
 has : ∃ es clock seen, h.t.get r = some (.map es clock) ∧ es.map entP = L.map (encP enc) ∧ (es.map (·.2.2)).Nodup ∧ (∀ e, e ∈ es → e.2.2 < clock) ∧ h.t.get it = some (.mapIter (some r) clock seen clock) ∧
  (es.filter fun e => notIn seen e.2.2).map entP = R.map (encP enc)
 pm : (V ++ R).Perm L
 lt : it < h.nx
 ltr : r < h.nx
theorem RngK.get {h h' : H} {it r : Nat} {L V R : List (κ × AV)} (k : RngK enc h it r L V R) (hx : h.nx ≤ h'.nx) (e1 : h'.t.get it = h.t.get it) (e2 : h'.t.get r = h.t.get r) : RngK enc h' it r L V R :=
 ⟨by obtain ⟨es, c, s, a, b, c', d, e, f⟩ := k.has; exact ⟨es, c, s, by rw [e2]; exact a, b, c', d, by rw [e1]; exact e, f⟩, k.pm, Nat.lt_of_lt_of_le k.lt hx, Nat.lt_of_lt_of_le k.ltr hx⟩
theorem RngK.map [DecidableEq κ] {h : H} {it r : Nat} {L V R : List (κ × AV)} (k : RngK enc h it r L V R) : MapK enc h r L := by
 obtain ⟨es, c, s, a, b, c', d, e, f⟩ := k.has
 exact ⟨⟨es, c, a, b, c', d⟩, k.ltr⟩
variable {P : Program}
theorem range_k {h : H} {r : Nat} {L : List (κ × AV)} [DecidableEq κ] (m : MapK enc h r L) {t kt elem : TypeId} (ht : P.underlying t = some (.map kt elem)) :
  ∃ h', rangeA P t (.map r) h = .val (.ptr h.nx 0) h' ∧ RngK enc h' h.nx r L [] L ∧ h'.nx = h.nx + 1 ∧ Only h h' [] ∧ h'.g = h.g := by
 obtain ⟨es, c, h1, h2, h3, h4⟩ := m.has
 have hlt := m.lt
 have ho : Only h (h.alloc (.mapIter (some r) c [] c)) [] := ⟨Nat.le_succ _, fun b hb _ => by
  show (h.t.set h.nx _).get b = _
  rw [T.get_set, if_neg (by omega)]⟩
 refine ⟨h.alloc (.mapIter (some r) c [] c), by unfold rangeA; simp only [ht, h1], ⟨⟨es, c, [], by rw [ho.2 r hlt (by simp)]; exact h1, h2, h3, h4, ?_, ?_⟩, by simp, Nat.lt_succ_self _, Nat.lt_succ_of_lt hlt⟩, rfl, ho, rfl⟩
 ·show (h.t.set h.nx _).get h.nx = _
  rw [T.get_set, if_pos rfl]
 ·rw [← h2]
  congr 1
  exact List.filter_eq_self.2 fun e _ => rfl
theorem beqF (x b : Nat) : Nat.beq x b = decide (x = b) := by
 cases q : Nat.beq x b with
 | true => have := Nat.eq_of_beq_eq_true q; simp [this]
 | false => have := Nat.ne_of_beq_eq_false q; simp [this]
theorem notIn_app (s : List Nat) (x b : Nat) : notIn (s ++ [b]) x = (notIn s x && !Nat.beq x b) := by
 rw [notIn_eq, notIn_eq, beqF, Bool.eq_iff_iff]
 simp [List.mem_append, not_or]
theorem findStamp_at : ∀ {es : List (AV × AV × Nat)} {e : AV × AV × Nat}, e ∈ es → (es.map (·.2.2)).Nodup → findStamp e.2.2 es = some (.tuple [e.1, e.2.1])
 | [], e, he, _ => by cases he
 | a :: es, e, he, hn => by
  rw [List.map_cons, List.nodup_cons] at hn
  unfold findStamp
  rcases List.mem_cons.1 he with rfl | he
  ·rw [Nat.beq_refl]
  ·have : Nat.beq a.2.2 e.2.2 = false := by
    cases q : Nat.beq a.2.2 e.2.2 with
    | false => rfl
    | true =>
     have := Nat.eq_of_beq_eq_true q
     exact absurd (by rw [this]; exact List.mem_map_of_mem he) hn.1
   rw [this]
   exact findStamp_at he hn.2
theorem lastOf_app : ∀ (l : List Nat) (b : Nat), lastOf (l ++ [b]) = some b
 | [], b => rfl
 | x :: l, b => by
  have ih := lastOf_app l b
  cases l with
  | nil => rfl
  | cons y l => exact ih
theorem next_k {h : H} {it r : Nat} {L V R : List (κ × AV)} (k : RngK enc h it r L V R) :
  ∃ C, nextL (.ptr it 0) h = some C ∧ ∀ y, y ∈ C → (R = [] ∧ y = (.tuple [.bool false], h)) ∨
   ∃ p R1 R2, R = R1 ++ p :: R2 ∧ y.1 = .tuple [.bool true, enc p.1, p.2] ∧ RngK enc y.2 it r L (V ++ [p]) (R1 ++ R2) ∧ y.2.nx = h.nx ∧ Only h y.2 [it] ∧ y.2.g = h.g ∧
    ∀ h2, h2.t.get it = y.2.t.get it → h2.t.get r = y.2.t.get r → entryA (.ptr it 0) h2 = some (.tuple [enc p.1, p.2]) := by
 obtain ⟨es, clock, seen, h1, h2, h3, h4, h5, h6⟩ := k.has
 have hne : r ≠ it := by
  intro e; subst e; rw [h1] at h5; cases h5
 have hall : ((es.all fun e => Nat.blt e.2.2 clock) && Nat.ble clock clock) = true := by
  rw [Bool.and_eq_true]
  refine ⟨List.all_eq_true.2 fun e he => ?_, Nat.ble_self_eq_true _⟩
  rw [Nat.blt_eq]; exact h4 e he
 obtain ⟨F, hF⟩ : ∃ F, F = es.filter fun e => notIn seen e.2.2 := ⟨_, rfl⟩
 rw [← hF] at h6
 cases hc : F with
 | nil =>
  refine ⟨[(.tuple [.bool false], h)], ?_, fun y hy => .inl ⟨?_, List.mem_singleton.1 hy⟩⟩
  ·unfold nextL
   simp only [h5, h1, hall, ← hF, hc]
  ·rw [hc] at h6; exact List.map_eq_nil_iff.1 h6.symm
 | cons u us =>
  refine ⟨F.map fun e => (.tuple [.bool true, e.1, e.2.1], { h with t := h.t.set it (some (.mapIter (some r) clock (seen ++ [e.2.2]) clock)) }), ?_, fun y hy => .inr ?_⟩
  ·unfold nextL
   simp only [h5, h1, hall, ← hF, hc]
  ·obtain ⟨e, he, rfl⟩ := List.mem_map.1 hy
   obtain ⟨F1, F2, hF12⟩ := List.append_of_mem he
   have hees : e ∈ es:= by rw [hF] at he; exact (List.mem_filter.1 he).1
   have hsub : (F.map (·.2.2)).Nodup:= by rw [hF]; exact h3.sublist (List.filter_sublist.map _)
   rw [hF12, List.map_append, List.map_cons] at h6
   obtain ⟨R1, R', hR, q1, q2⟩ := List.map_eq_append_iff.1 h6.symm
   obtain ⟨p, R2, hR', q3, q4⟩ := List.map_eq_cons_iff.1 q2
   subst hR'
   have e1 : e.1 = enc p.1 := (congrArg Prod.fst q3).symm
   have e2 : e.2.1 = p.2 := (congrArg Prod.snd q3).symm
   have ho : Only h { h with t := h.t.set it (some (.mapIter (some r) clock (seen ++ [e.2.2]) clock)) } [it] := ⟨Nat.le_refl _, fun b _ hn => by rw [T.get_set, if_neg (by simpa using hn)]⟩
   have hg1 : ∀ x, (h.t.set it (some x)).get r = some (.map es clock) := fun x => by rw [T.get_set, if_neg hne]; exact h1
   have hg2 : ∀ x, (h.t.set it (some x)).get it = some x := fun x => by rw [T.get_set, if_pos rfl]
   have hfil : (es.filter fun x => notIn (seen ++ [e.2.2]) x.2.2) = F1 ++ F2 := by
    have a1 : (es.filter fun x => notIn (seen ++ [e.2.2]) x.2.2) = F.filter fun x => !Nat.beq x.2.2 e.2.2 := by
     rw [hF, List.filter_filter]
     congr 1
     funext x
     rw [notIn_app, Bool.and_comm]
    rw [a1, hF12, List.filter_append, List.filter_cons]
    rw [hF12, List.map_append, List.map_cons, List.nodup_append, List.nodup_cons] at hsub
    have b1 : F1.filter (fun x => !Nat.beq x.2.2 e.2.2) = F1 := List.filter_eq_self.2 fun x hx => by
     have : x.2.2 ≠ e.2.2 := hsub.2.2 x.2.2 (List.mem_map_of_mem hx) e.2.2 (by simp)
     rw [beqF]; simp [this]
    have b2 : F2.filter (fun x => !Nat.beq x.2.2 e.2.2) = F2 := List.filter_eq_self.2 fun x hx => by
     have : x.2.2 ≠ e.2.2 := fun q => hsub.2.1.1 (by rw [← q]; exact List.mem_map_of_mem hx)
     rw [beqF]; simp [this]
    rw [b1, b2, Nat.beq_refl]
    rfl
   refine ⟨p, R1, R2, hR, by rw [← e1, ← e2], ⟨⟨es, clock, seen ++ [e.2.2], hg1 _, h2, h3, h4, hg2 _, ?_⟩, ?_, k.lt, k.ltr⟩, rfl, ho, rfl, fun hh g1 g2 => ?_⟩
   ·rw [hfil, List.map_append, List.map_append, q1, q4]
   ·refine List.Perm.trans ?_ k.pm
    rw [hR, List.append_assoc]
    refine List.Perm.append_left V ?_
    rw [List.singleton_append]
    exact List.perm_middle.symm
   ·rw [hg2] at g1
    rw [hg1] at g2
    unfold entryA
    simp only [g1, g2, lastOf_app, Nat.beq_refl, findStamp_at hees h3, e1, e2]
variable {nt : Nat} {tm : T AV} {h : H}
theorem pick_k {ops : Array Oper} {o : Oper} {l : List Oper} {Q : T AV → H → Prop} {t : Tmp} {it r : Nat} {L V R : List (κ × AV)} (hg : o.guard = none) (hop : o.op = .next (.tmp t) false) (ht : tm.get t = some (.ptr it 0)) (k : RngK enc h it r L V R)
  (h0 : R = [] → opsW P nt ops l (putT nt tm o.dst (.tuple [.bool false])) h Q)
  (h1 : ∀ p R1 R2 h2, R = R1 ++ p :: R2 → RngK enc h2 it r L (V ++ [p]) (R1 ++ R2) → h2.nx = h.nx → Only h h2 [it] → h2.g = h.g → (∀ h3, h3.t.get it = h2.t.get it → h3.t.get r = h2.t.get r → entryA (.ptr it 0) h3 = some (.tuple [enc p.1, p.2])) →
   opsW P nt ops l (putT nt tm o.dst (.tuple [.bool true, enc p.1, p.2])) h2 Q) : pickW P nt ops (o :: l) tm h Q := by
 obtain ⟨C, hC, hall⟩ := next_k k
 refine ⟨hg, C, ?_, fun y hy => ?_⟩
 ·rw [hop]
  unfold pickA
  have : evalA tm (.tmp t) = some (.ptr it 0):= by unfold evalA; simp only [ht]
  simp only [this]
  exact hC
 ·rcases hall y hy with ⟨a, rfl⟩ | ⟨p, R1, R2, a, b, c, d, e, f, g⟩
  ·exact h0 a
  ·rw [b]; exact h1 p R1 R2 y.2 a c d e f g
theorem ex_range (t : TypeId) (x : Operand) : execA P tm h (.range t x) = ob (evalA tm x) fun v => rangeA P t v h := by
 simp only [execA]
 cases evalA tm x <;> rfl
theorem ex_entry (x : Operand) : execA P tm h (.entry x) = ob (evalA tm x) fun v => ob (entryA v h) fun v => .val v h := by
 simp only [execA]
 cases evalA tm x with
 | none => rfl
 | some v => show optV h (entryA v h) = ob (entryA v h) _; cases entryA v h <;> rfl
end
structure StopC (p : Prop) : Prop where
 go : p
theorem stopC {P : Program} {fn nt : Nat} {ro : Option Nat} {c : Code} (rp : List Nat) {ds : List Nat} {tm : T AV} {h : H} {Q : KQ} (hw : StopC (codeW P fn nt ro (codeI c rp) ds tm h Q)) : codeW P fn nt ro (codeI c rp) ds tm h Q := hw.go
def pk1F (P : Program) (nt : Nat) (ds : List Nat) (tm : T AV) (h : H) (Q : KQ) : Code → Prop
 | .region _ ops false => Hold (pickW P nt ops ops.toList tm h (Q .norm ds))
 | _ => False
theorem pk1 {P : Program} {fn nt : Nat} {ro : Option Nat} {c : Code} {rp : List Nat} {ds : List Nat} {tm : T AV} {h : H} {Q : KQ} (hw : pk1F P nt ds tm h Q (codeI c rp)) : codeW P fn nt ro (codeI c rp) ds tm h Q := by
 cases e : codeI c rp with
 | region i ops d =>
  rw [e] at hw
  cases d with
  | false => exact .inr hw.h
  | true => exact absurd hw id
 | _ => rw [e] at hw; exact absurd hw id
end
end Go.AX

namespace Go.Proofs.YtllmfnedkhiomaaDoor.S
open Go Go.AX
noncomputable section
set_option maxRecDepth 100000
theorem conv1 {h : H} (n : Nat) (hn : n < 256) : convR P 75 9 (.slice h.nx 0 1 (.exact 1)) (h.newCells 5 [.int .u8 (.ofNat n)]) = .val (.str [n]) (h.newCells 5 [.int .u8 (.ofNat n)]) :=
 conv_bytes (l := [n]) rfl (by simp) (fun j hj => by
  rw [cellAt_new, if_pos rfl, Nat.zero_add]
  match j, hj with
  | 0, _ => rfl) (fun c hc => by rw [List.mem_singleton] at hc; omega)
theorem rm256 (h : H) (t : TypeId) (x y : Operand) (m : Nat) : binR P h .rem t x y (.int .u64 (.ofNat m)) (.int .u64 (.ofNat 256)) = .val (.int .u64 (.ofNat (m % 256))) h := b_rem _ _ _ rfl
theorem rm16 (h : H) (t : TypeId) (x y : Operand) (m : Nat) : binR P h .rem t x y (.int .u64 (.ofNat m)) (.int .u64 (.ofNat 16)) = .val (.int .u64 (.ofNat (m % 16))) h := b_rem _ _ _ rfl
theorem qu256 {m : Nat} (hm : m < M64) (h : H) (t : TypeId) (x y : Operand) : binR P h .quo t x y (.int .u64 (.ofNat m)) (.int .u64 (.ofNat 256)) = .val (.int .u64 (.ofNat (m / 256))) h := by
 rw [b_quo _ _ _ rfl]
 have : (Int.ofNat m).tdiv (Int.ofNat 256) = Int.ofNat (m / 256) := rfl
 rw [this, u64_nat (by have : M64 = 18446744073709551616 := rfl; omega)]
theorem qu16 {m : Nat} (hm : m < M64) (h : H) (t : TypeId) (x y : Operand) : binR P h .quo t x y (.int .u64 (.ofNat m)) (.int .u64 (.ofNat 16)) = .val (.int .u64 (.ofNat (m / 16))) h := by
 rw [b_quo _ _ _ rfl]
 have : (Int.ofNat m).tdiv (Int.ofNat 16) = Int.ofNat (m / 16) := rfl
 rw [this, u64_nat (by have : M64 = 18446744073709551616 := rfl; omega)]
structure RpI (h0 : H) (n : Nat) (s : List Nat) (m : Nat) (ds : List Nat) (tm : T AV) (h : H) (suf : List Nat) : Prop where
 ds : ds = []
 le : m < M64
 hs : b256 n = b256 m ++ suf
 t0 : tm.get 0 = some (.str s)
 t1 : tm.get 1 = some (.int .u64 (.ofNat m))
 t5 : tm.get 5 = some (.str suf)
 oo : Og h0 h []
theorem rPutN (h0 : H) (n : Nat) (s : List Nat) (hn : n < M64) (hs : s.length ≤ 10000) : PushC P (.enter 26 [.str s, .int .u64 (.ofNat n)] h0) (SaysG h0 (.str (s ++ encN n))) := by
 have e0 : bytesOf { data := #[] } = [] := rfl
 refine pushC_of_codeW (fn := Tryd.f26) (c := bodyC Tryd.f26) Tryd.func26 rfl ?_
 show codeW P 26 35 none _ _ _ _ _
 refine codeW_root ?_
 by_cases hn8 : n < 248
 ·have hlt : decide (n < 248) = true := decide_eq_true hn8
  have w8 : wrapF .u8 (Int.ofNat n) = Int.ofNat n:= by rw [u8_mod, Nat.mod_eq_of_lt (by omega)]
  have he : encN n = [n]:= by unfold encN; rw [if_pos hn8]
  rw [he]
  have cv := conv1 (h := h0) n (by omega)
  have ad := fun h t x y => b_addS (a := s) (b := [n]) (by simp; omega) h t x y
  repeat' (first | ((with_reducible refine st1 ?_); (conv => whnf); (with_reducible refine ⟨?_⟩)) | ((with_reducible refine retW_intro rfl ?_); (conv => arg 2; whnf)) | ((with_reducible first | refine iB ?_ ?_ | refine gWt ?_ ?_ | refine gWf ?_ ?_) <;> intro hb <;> (try simp only [hb])) | (simp only [B, F, reduceLT, reduceLeDiff, reduceEqDiff, reduceAdd, reduceMul, reduceSub, ↓reduceIte, eq_self, e0, hlt, w8, cv, ad]))
  exact ⟨rfl, (Og.refl _ _).new _ _⟩
 ·have hlt : decide (n < 248) = false := decide_eq_false hn8
  have hd8 : (b256 n).length ≤ 8 := b256_len 8 n hn
  repeat' (first | ((with_reducible refine st1 ?_); (conv => whnf); (with_reducible refine ⟨?_⟩)) | ((with_reducible refine retW_intro rfl ?_); (conv => arg 2; whnf)) | ((with_reducible first | refine iB ?_ ?_ | refine gWt ?_ ?_ | refine gWf ?_ ?_) <;> intro hb <;> (try simp only [hb])) | (simp only [B, F, reduceLT, reduceLeDiff, reduceEqDiff, reduceAdd, reduceMul, reduceSub, ↓reduceIte, eq_self, e0, hlt]))
  refine st_loop (fun m ds tm h' => ∃ suf, RpI h0 n s m ds tm h' suf) n rfl ⟨[], rfl, hn, by simp, by simp only [B, F, reduceLT, reduceLeDiff, reduceEqDiff, reduceAdd, reduceMul, reduceSub, ↓reduceIte, eq_self], by simp only [B, F, reduceLT, reduceLeDiff, reduceEqDiff, reduceAdd, reduceMul, reduceSub, ↓reduceIte, eq_self], by simp only [B, F, reduceLT, reduceLeDiff, reduceEqDiff, reduceAdd, reduceMul, reduceSub, ↓reduceIte, eq_self], Og.refl _ _⟩ (fun m ds tm h3 hI => ?_)
  obtain ⟨suf, rfl, hm, hs3, t0, t1, t5, o3⟩ := hI
  by_cases hz : 0 < m
  ·have d1 : decide (0 < m) = true := decide_eq_true hz
   have w8 : wrapF .u8 (Int.ofNat (m % 256)) = Int.ofNat (m % 256):= by rw [u8_mod, Nat.mod_mod]
   have hge := b256_s (n := m) (by omega)
   have hl3 : suf.length ≤ 8:= by have := congrArg List.length hs3; simp at this; omega
   have cv := conv1 (h := h3) (m % 256) (Nat.mod_lt _ (by omega))
   have ad := fun h t x y => b_addS (a := [m % 256]) (b := suf) (by simp; omega) h t x y
   have qu := qu256 hm
   repeat' (first | ((with_reducible refine st1 ?_); (conv => whnf); (with_reducible refine ⟨?_⟩)) | ((with_reducible refine retW_intro rfl ?_); (conv => arg 2; whnf)) | ((with_reducible first | refine iB ?_ ?_ | refine gWt ?_ ?_ | refine gWf ?_ ?_) <;> intro hb <;> (try simp only [hb])) | (simp only [B, F, reduceLT, reduceLeDiff, reduceEqDiff, reduceAdd, reduceMul, reduceSub, ↓reduceIte, eq_self, t0, t1, t5, d1, rm256, qu, w8, cv, ad]))
   refine ⟨m / 256, by omega, _, rfl, by omega, by rw [hs3, hge, List.append_assoc], by simp only [B, F, reduceLT, reduceLeDiff, reduceEqDiff, reduceAdd, reduceMul, reduceSub, ↓reduceIte, eq_self, t0], by simp only [B, F, reduceLT, reduceLeDiff, reduceEqDiff, reduceAdd, reduceMul, reduceSub, ↓reduceIte, eq_self], by simp only [B, F, reduceLT, reduceLeDiff, reduceEqDiff, reduceAdd, reduceMul, reduceSub, ↓reduceIte, eq_self], o3.new _ _⟩
  ·have d1 : decide (0 < m) = false := decide_eq_false hz
   obtain rfl : m = 0:= by omega
   rw [b256_0, List.nil_append] at hs3
   have he : encN n = (247 + (b256 n).length) :: b256 n:= by unfold encN; rw [if_neg hn8]
   rw [← hs3] at t5
   have w5 : wrapF .i64 (Int.ofNat 247 + Int.ofNat (b256 n).length) = .ofNat (247 + (b256 n).length) := i64_add (by omega)
   have w6 : wrapF .u8 (Int.ofNat (247 + (b256 n).length)) = .ofNat (247 + (b256 n).length):= by rw [u8_mod, Nat.mod_eq_of_lt (by omega)]
   have cv := conv1 (h := h3) (247 + (b256 n).length) (by omega)
   have ad := fun h t x y => b_addS (a := s) (b := [247 + (b256 n).length]) (by simp; omega) h t x y
   have ad2 := fun h t x y => b_addS (a := s ++ [247 + (b256 n).length]) (b := b256 n) (by simp; omega) h t x y
   repeat' (first | ((with_reducible refine st1 ?_); (conv => whnf); (with_reducible refine ⟨?_⟩)) | ((with_reducible refine retW_intro rfl ?_); (conv => arg 2; whnf)) | ((with_reducible first | refine iB ?_ ?_ | refine gWt ?_ ?_ | refine gWf ?_ ?_) <;> intro hb <;> (try simp only [hb])) | (simp only [B, F, reduceLT, reduceLeDiff, reduceEqDiff, reduceAdd, reduceMul, reduceSub, ↓reduceIte, eq_self, t0, t1, t5, d1, w5, w6, cv, ad, ad2]))
   exact ⟨by rw [he, List.append_assoc]; rfl, o3.new _ _⟩
theorem rPutText (h : H) (s u : List Nat) (hu : u.length < 100000) (hs : s.length ≤ 9000) : PushC P (.enter 25 [.str s, .str u] h) (SaysG h (.str (s ++ encN u.length ++ u))) := by
 have hu2 : u.length < M64:= by have : M64 = 18446744073709551616 := rfl; omega
 have w : wrapF .u64 (Int.ofNat u.length) = Int.ofNat u.length := u64_nat (by omega)
 have ad := fun h t x y => b_addS (a := s ++ encN u.length) (b := u) (by rw [List.length_append]; have := encN_len hu2; omega) h t x y
 refine pushC_of_codeW (fn := Tryd.f25) (c := bodyC Tryd.f25) Tryd.func25 rfl ?_
 show codeW P 25 12 none _ _ _ _ _
 refine codeW_root ?_
 repeat' (first | ((with_reducible refine st1 ?_); (conv => whnf); (with_reducible refine ⟨?_⟩)) | ((with_reducible refine retW_intro rfl ?_); (conv => arg 2; whnf)) | ((with_reducible first | refine iB ?_ ?_ | refine gWt ?_ ?_ | refine gWf ?_ ?_) <;> intro hb <;> (try simp only [hb])) | (simp only [B, F, reduceLT, reduceLeDiff, reduceEqDiff, reduceAdd, reduceMul, reduceSub, ↓reduceIte, eq_self, w]))
 refine ((rPutN _ u.length s hu2 (by omega)).call P).mono P ?_
 rintro v h1 ⟨rfl, o1⟩
 repeat' (first | ((with_reducible refine st1 ?_); (conv => whnf); (with_reducible refine ⟨?_⟩)) | ((with_reducible refine retW_intro rfl ?_); (conv => arg 2; whnf)) | ((with_reducible first | refine iB ?_ ?_ | refine gWt ?_ ?_ | refine gWf ?_ ?_) <;> intro hb <;> (try simp only [hb])) | (simp only [B, F, reduceLT, reduceLeDiff, reduceEqDiff, reduceAdd, reduceMul, reduceSub, ↓reduceIte, eq_self, ad]))
 exact ⟨rfl, o1⟩
def hexF : Nat → Nat → List Nat
 | _, 0 => []
 | n, d + 1 => hexF (n / 16) d ++ [hexD (n % 16)]
theorem hexF_P : ∀ (d n : Nat), n < 16 ^ d → 0 < d → hexF n d = hexP n d
 | 0, n, _, h => by omega
 | d + 1, n, hn, _ => by
  unfold hexF
  by_cases q : n < 16
  ·have e1 : n / 16 = 0:= by omega
   have e2 : n % 16 = n:= by omega
   have h0 : ∀ d, hexF 0 d = List.replicate d 48 := by
    intro d
    induction d with
    | zero => rfl
    | succ d ih => unfold hexF; rw [show 0 / 16 = 0 from rfl, ih, List.replicate_succ']; rfl
   unfold hexP
   rw [e1, e2, h0, hexL_lt q]
   simp
  ·have hd : 0 < d := by
    rcases Nat.eq_zero_or_pos d with rfl | h
    ·simp at hn; omega
    ·exact h
   rw [hexF_P d (n / 16) (by rw [Nat.pow_succ] at hn; omega) hd]
   unfold hexP
   rw [hexL_ge q, List.length_append, List.length_singleton, List.append_assoc]
   congr 2
   omega
structure RhI (h0 : H) (n d : Nat) (m : Nat) (ds : List Nat) (tm : T AV) (h : H) (u i : Nat) (suf : List Nat) : Prop where
 ds : ds = []
 nn : m = d - i
 ii : i ≤ d
 le : u < M64
 hs : hexF n d = hexF u (d - i) ++ suf
 ls : suf.length = i
 t0 : tm.get 0 = some (.int .u64 (.ofNat u))
 t1 : tm.get 1 = some (.int .i64 (.ofNat d))
 t5 : tm.get 5 = some (.str suf)
 t6 : tm.get 6 = some (.int .i64 (.ofNat i))
 oo : Og h0 h []
theorem dg16 {k : Nat} (hk : k < 16) : sliceA P 9 (.str [48, 49, 50, 51, 52, 53, 54, 55, 56, 57, 97, 98, 99, 100, 101, 102]) (some (.int .i64 (.ofNat k))) (some (.int .i64 (.ofNat (k + 1)))) none = some (.str [hexD k]) := by
 rcases (show k = 0 ∨ k = 1 ∨ k = 2 ∨ k = 3 ∨ k = 4 ∨ k = 5 ∨ k = 6 ∨ k = 7 ∨ k = 8 ∨ k = 9 ∨ k = 10 ∨ k = 11 ∨ k = 12 ∨ k = 13 ∨ k = 14 ∨ k = 15 by omega) with rfl | rfl | rfl | rfl | rfl | rfl | rfl | rfl | rfl | rfl | rfl | rfl | rfl | rfl | rfl | rfl <;> (simp only [sliceA, u9a]; rfl)
theorem rHexC (h0 : H) (n d : Nat) (hn : n < M64) (hd : d < 100) : PushC P (.enter 27 [.int .u64 (.ofNat n), .int .i64 (.ofNat d)] h0) (SaysG h0 (.str (hexF n d))) := by
 have e0 : bytesOf { data := #[] } = [] := rfl
 have e1 : bytesOf { data := #[48, 49, 50, 51, 52, 53, 54, 55, 56, 57, 97, 98, 99, 100, 101, 102] } = [48, 49, 50, 51, 52, 53, 54, 55, 56, 57, 97, 98, 99, 100, 101, 102] := rfl
 refine pushC_of_codeW (fn := Tryd.f27) (c := bodyC Tryd.f27) Tryd.func27 rfl ?_
 show codeW P 27 25 none _ _ _ _ _
 refine codeW_root ?_
 repeat' (first | ((with_reducible refine st1 ?_); (conv => whnf); (with_reducible refine ⟨?_⟩)) | ((with_reducible refine retW_intro rfl ?_); (conv => arg 2; whnf)) | ((with_reducible first | refine iB ?_ ?_ | refine gWt ?_ ?_ | refine gWf ?_ ?_) <;> intro hb <;> (try simp only [hb])) | (simp only [B, F, reduceLT, reduceLeDiff, reduceEqDiff, reduceAdd, reduceMul, reduceSub, ↓reduceIte, eq_self, e0]))
 refine st_loop (fun m ds tm h' => ∃ u i suf, RhI h0 n d m ds tm h' u i suf) d rfl ⟨n, 0, [], rfl, rfl, Nat.zero_le _, hn, by simp, rfl, by simp only [B, F, reduceLT, reduceLeDiff, reduceEqDiff, reduceAdd, reduceMul, reduceSub, ↓reduceIte, eq_self], by simp only [B, F, reduceLT, reduceLeDiff, reduceEqDiff, reduceAdd, reduceMul, reduceSub, ↓reduceIte, eq_self], by simp only [B, F, reduceLT, reduceLeDiff, reduceEqDiff, reduceAdd, reduceMul, reduceSub, ↓reduceIte, eq_self], by simp only [B, F, reduceLT, reduceLeDiff, reduceEqDiff, reduceAdd, reduceMul, reduceSub, ↓reduceIte, eq_self], Og.refl _ _⟩ (fun m ds tm h hI => ?_)
 obtain ⟨u, i, suf, rfl, rfl, hi, hu, hs, ls, t0, t1, t5, t6, oo⟩ := hI
 by_cases hid : i < d
 ·have d1 : decide (i < d) = true := decide_eq_true hid
  have w1 : wrapF .i64 (Int.ofNat (u % 16)) = Int.ofNat (u % 16) := by
   have := i64_add (a := u % 16) (b := 0) (by omega)
   simpa using this
  have w2 : wrapF .i64 (Int.ofNat (u % 16) + Int.ofNat 1) = Int.ofNat (u % 16 + 1) := i64_add (by omega)
  have w3 : wrapF .i64 (Int.ofNat i + Int.ofNat 1) = Int.ofNat (i + 1) := i64_add (by omega)
  have dg := dg16 (k := u % 16) (Nat.mod_lt _ (by omega))
  have ad := fun h t x y => b_addS (a := [hexD (u % 16)]) (b := suf) (by simp; omega) h t x y
  have qu := qu16 hu
  repeat' (first | ((with_reducible refine st1 ?_); (conv => whnf); (with_reducible refine ⟨?_⟩)) | ((with_reducible refine retW_intro rfl ?_); (conv => arg 2; whnf)) | ((with_reducible first | refine iB ?_ ?_ | refine gWt ?_ ?_ | refine gWf ?_ ?_) <;> intro hb <;> (try simp only [hb])) | (simp only [B, F, reduceLT, reduceLeDiff, reduceEqDiff, reduceAdd, reduceMul, reduceSub, ↓reduceIte, eq_self, t0, t1, t5, t6, d1, w1, w2, e1, rm16, qu, @ex_sl_lh, dg, ad, w3]))
  have hst : hexF u (d - i) = hexF (u / 16) (d - (i + 1)) ++ [hexD (u % 16)] := by
   rw [show d - i = d - (i + 1) + 1 by omega]
   rfl
  have hu' : u / 16 < M64 := Nat.lt_of_le_of_lt (Nat.div_le_self _ _) hu
  exact ⟨d - (i + 1), by omega, u / 16, i + 1, hexD (u % 16) :: suf, rfl, rfl, by omega, hu', by rw [hs, hst, List.append_assoc]; rfl, by rw [List.length_cons, ls], by simp only [B, F, reduceLT, reduceLeDiff, reduceEqDiff, reduceAdd, reduceMul, reduceSub, ↓reduceIte, eq_self], by simp only [B, F, reduceLT, reduceLeDiff, reduceEqDiff, reduceAdd, reduceMul, reduceSub, ↓reduceIte, eq_self, t1], by simp only [B, F, reduceLT, reduceLeDiff, reduceEqDiff, reduceAdd, reduceMul, reduceSub, ↓reduceIte, eq_self], by simp only [B, F, reduceLT, reduceLeDiff, reduceEqDiff, reduceAdd, reduceMul, reduceSub, ↓reduceIte, eq_self], oo⟩
 ·have d1 : decide (i < d) = false := decide_eq_false hid
  obtain rfl : i = d:= by omega
  rw [Nat.sub_self] at hs
  repeat' (first | ((with_reducible refine st1 ?_); (conv => whnf); (with_reducible refine ⟨?_⟩)) | ((with_reducible refine retW_intro rfl ?_); (conv => arg 2; whnf)) | ((with_reducible first | refine iB ?_ ?_ | refine gWt ?_ ?_ | refine gWf ?_ ?_) <;> intro hb <;> (try simp only [hb])) | (simp only [B, F, reduceLT, reduceLeDiff, reduceEqDiff, reduceAdd, reduceMul, reduceSub, ↓reduceIte, eq_self, t0, t1, t5, t6, d1]))
  exact ⟨by rw [hs]; rfl, oo⟩
abbrev Rw := Nat × Lst
def rwC (x : Rw) : List AV := [.int .u64 (.ofNat x.1), .int .u64 (.ofNat x.2.1), .str x.2.2]
def rwsC (L : List Rw) : List AV := L.flatMap rwC
abbrev Kp := List Nat × List Nat
def kpC (x : Kp) : List AV := [.str x.1, .str x.2]
def kpsC (L : List Kp) : List AV := L.flatMap kpC
def prs (x : Rw) : List Kp := (List.range (cntP (textP x.2.1 x.2.2))).map fun i => (keyP x.1 i, pieceP (textP x.2.1 x.2.2) i)
theorem rws_len (L : List Rw) : (rwsC L).length = L.length * 3 := by
 unfold rwsC
 induction L with
 | nil => rfl
 | cons a L ih => rw [List.flatMap_cons, List.length_append, ih, List.length_cons]; simp [rwC]; omega
theorem u44a : P.underlying 44 = some (.slice 66):= by kernel_rfl
theorem u39a : P.underlying 39 = some (.slice 64):= by kernel_rfl
theorem i44 : infoOk P 66 2 = true:= by kernel_rfl
theorem i39 : infoOk P 64 3 = true:= by kernel_rfl
end
end Go.Proofs.YtllmfnedkhiomaaDoor.S

namespace Go.Proofs.YtllmfnedkhiomaaDoor.S
open Go Go.AX
noncomputable section
set_option maxRecDepth 100000
theorem cut_lh (s : List Nat) (l n : Nat) (hl : l ≤ n) (hn : n ≤ s.length) : sliceA P 9 (.str s) (some (.int .i64 (.ofNat l))) (some (.int .i64 (.ofNat n))) none = some (.str ((s.take n).drop l)) := by
 have hb : Nat.ble n s.length = true:= by rw [Nat.ble_eq]; exact hn
 have hc : Nat.ble l n = true:= by rw [Nat.ble_eq]; exact hl
 simp only [sliceA, u9a, sliceStr, bndO, bnd, lenL_eq, hb, hc]
theorem piece_cut (s : List Nat) (i : Nat) : (s.take (min (i * 96 + 96) s.length)).drop (i * 96) = pieceP s i := by
 unfold pieceP
 rw [List.take_drop]
 congr 1
 rcases Nat.le_total (i * 96 + 96) s.length with q | q
 ·rw [Nat.min_eq_left q]
 ·rw [Nat.min_eq_right q, List.take_of_length_le (Nat.le_refl _), List.take_of_length_le q]
structure RqI (h0 : H) (b c n : Nat) (r s : List Nat) (m : Nat) (ds : List Nat) (tm : T AV) (h : H) (i : Nat) (v : AV) : Prop where
 ds : ds = []
 nn : m = cntP s - i
 ii : i ≤ cntP s
 t1 : tm.get 1 = some (.ptr b 0)
 t3 : tm.get 3 = some (.str s)
 t4 : tm.get 4 = some v
 t5 : tm.get 5 = some (.int .i64 (.ofNat i))
 gr : Grows 2 (h0.nx + 1) h v i (kpsC ((prs (c, n, r)).take i))
 nx : h0.nx + 1 ≤ h.nx
 oo : Og h0 h []
 c0 : cellAt h b 0 = some (.int .u64 (.ofNat c))
theorem rowPairs (h0 : H) (c n : Nat) (r : List Nat) (hc : c < 281474976710656) (hn : n < M64) (hr : r.length < 5000) :
  PushC P (.enter 19 [.agg [.int .u64 (.ofNat c), .int .u64 (.ofNat n), .str r]] h0) fun v h' => Og h0 h' [] ∧ Grows 2 h0.nx h' v (prs (c, n, r)).length (kpsC (prs (c, n, r))) := by
 have e0 : bytesOf { data := #[] } = [] := rfl
 have e1 : bytesOf { data := #[115] } = [115] := rfl
 have e2 : bytesOf { data := #[45] } = [45] := rfl
 obtain ⟨s, hs⟩ : ∃ s, s = textP n r := ⟨_, rfl⟩
 have hr2 : r.length < M64:= by have : M64 = 18446744073709551616 := rfl; omega
 have hsl : s.length ≤ 5020:= by rw [hs]; unfold textP; have := encN_len hn; have := encN_len hr2; simp; omega
 have hlp : (prs (c, n, r)).length = cntP s:= by unfold prs; rw [hs]; simp
 have hcnt : cntP s = (s.length + 95) / 96 := rfl
 obtain ⟨h1, h1e⟩ : ∃ h1, h1 = h0.newCells 64 [.int .u64 (.ofNat c), .int .u64 (.ofNat n), .str r] := ⟨_, rfl⟩
 have o1 : Og h0 h1 []:= by rw [h1e]; exact (Og.refl _ _).new _ _
 have x1 : h1.nx = h0.nx + 1:= by rw [h1e]; rfl
 have z0 : cellAt h1 h0.nx 0 = some (.int .u64 (.ofNat c)):= by rw [h1e, cellAt_new, if_pos rfl]; rfl
 have z1 : cellAt h1 h0.nx 1 = some (.int .u64 (.ofNat n)):= by rw [h1e, cellAt_new, if_pos rfl]; rfl
 have z2 : cellAt h1 h0.nx 2 = some (.str r):= by rw [h1e, cellAt_new, if_pos rfl]; rfl
 refine pushC_of_codeW (fn := Tryd.f19) (c := bodyC Tryd.f19) Tryd.func19 rfl ?_
 show codeW P 19 43 none _ _ _ _ _
 refine codeW_root ?_
 repeat' (first | ((with_reducible refine st1 ?_); (conv => whnf); (with_reducible refine ⟨?_⟩)) | ((with_reducible refine st_dp ord19_0 ?_ rfl rfl ?_); exact rfl; (conv => arg 4; whnf); (conv => arg 3; whnf)) | ((with_reducible refine st_dp ord19_1 ?_ rfl rfl ?_); exact rfl; (conv => arg 4; whnf); (conv => arg 3; whnf)) | ((with_reducible refine retW_intro rfl ?_); (conv => arg 2; whnf)) | ((with_reducible first | refine iB ?_ ?_ | refine gWt ?_ ?_ | refine gWf ?_ ?_ | refine gXt ?_ ?_ | refine gXf ?_ ?_) <;> intro hb <;> (try simp only [hb])) | ((with_reducible show drawP _ _ _ _ _ _ _ _ _); first | ((with_reducible apply kP_rd); exact rfl; exact rfl) | ((with_reducible apply kP_rg); exact rfl; exact rfl; exact rfl) | ((with_reducible apply kP_cv); exact rfl; exact rfl; kernel_rfl) | ((with_reducible apply kP_al); exact rfl; exact rfl; exact rfl) | ((with_reducible apply kP_fl); exact rfl; exact rfl; exact rfl) | ((with_reducible apply kP_ex); exact rfl; exact rfl; kernel_rfl; exact rfl) | ((with_reducible apply kP_eg); exact rfl; exact rfl; kernel_rfl; exact rfl) | ((with_reducible refine kP_nl ?_ ?_))) | ((with_reducible show eOk _ _ _ _ _ _); first | (exact eok_nil) | (refine ke_rd ?_ ?_ ?_; exact rfl) | (apply ke_rg; exact rfl; exact rfl) | (refine ke_cv ?_ ?_ ?_ ?_; exact rfl; kernel_rfl) | (apply ke_fl; exact rfl) | (apply ke_al; exact rfl; exact rfl)) | ((with_reducible refine freshIs_new ?_); kernel_rfl) | (simp only [B, xB, F, reduceLT, reduceLeDiff, reduceEqDiff, reduceAdd, reduceMul, reduceSub, ↓reduceIte, eq_self, ← h1e, z0, z1, z2, e0]))
 refine ((rPutN h1 n [] hn (by simp)).call P).mono P ?_
 rintro v h2 ⟨rfl, o2⟩
 have y2 := kc z2 o2 (by omega) (by simp)
 have y0 := kc z0 o2 (by omega) (by simp)
 repeat' (first | ((with_reducible refine st1 ?_); (conv => whnf); (with_reducible refine ⟨?_⟩)) | ((with_reducible refine st_dp ord19_0 ?_ rfl rfl ?_); exact rfl; (conv => arg 4; whnf); (conv => arg 3; whnf)) | ((with_reducible refine st_dp ord19_1 ?_ rfl rfl ?_); exact rfl; (conv => arg 4; whnf); (conv => arg 3; whnf)) | ((with_reducible refine retW_intro rfl ?_); (conv => arg 2; whnf)) | ((with_reducible first | refine iB ?_ ?_ | refine gWt ?_ ?_ | refine gWf ?_ ?_ | refine gXt ?_ ?_ | refine gXf ?_ ?_) <;> intro hb <;> (try simp only [hb])) | ((with_reducible show drawP _ _ _ _ _ _ _ _ _); first | ((with_reducible apply kP_rd); exact rfl; exact rfl) | ((with_reducible apply kP_rg); exact rfl; exact rfl; exact rfl) | ((with_reducible apply kP_cv); exact rfl; exact rfl; kernel_rfl) | ((with_reducible apply kP_al); exact rfl; exact rfl; exact rfl) | ((with_reducible apply kP_fl); exact rfl; exact rfl; exact rfl) | ((with_reducible apply kP_ex); exact rfl; exact rfl; kernel_rfl; exact rfl) | ((with_reducible apply kP_eg); exact rfl; exact rfl; kernel_rfl; exact rfl) | ((with_reducible refine kP_nl ?_ ?_))) | ((with_reducible show eOk _ _ _ _ _ _); first | (exact eok_nil) | (refine ke_rd ?_ ?_ ?_; exact rfl) | (apply ke_rg; exact rfl; exact rfl) | (refine ke_cv ?_ ?_ ?_ ?_; exact rfl; kernel_rfl) | (apply ke_fl; exact rfl) | (apply ke_al; exact rfl; exact rfl)) | ((with_reducible refine freshIs_new ?_); kernel_rfl) | (simp only [B, xB, F, reduceLT, reduceLeDiff, reduceEqDiff, reduceAdd, reduceMul, reduceSub, ↓reduceIte, eq_self, z0, z1, z2, y2, e0]))
 refine ((rPutText h2 ([] ++ encN n) r (by omega) (by have := encN_len hn; simp; omega)).call P).mono P ?_
 rintro v h3 ⟨rfl, o3⟩
 have hs2 : [] ++ encN n ++ encN r.length ++ r = s:= by rw [hs]; rfl
 rw [hs2]
 have x2 := o2.1.1
 have w0 := kc y0 o3 (by omega) (by simp)
 have w2 := kc y2 o3 (by omega) (by simp)
 repeat' (first | ((with_reducible refine st1 ?_); (conv => whnf); (with_reducible refine ⟨?_⟩)) | ((with_reducible refine st_dp ord19_0 ?_ rfl rfl ?_); exact rfl; (conv => arg 4; whnf); (conv => arg 3; whnf)) | ((with_reducible refine st_dp ord19_1 ?_ rfl rfl ?_); exact rfl; (conv => arg 4; whnf); (conv => arg 3; whnf)) | ((with_reducible refine retW_intro rfl ?_); (conv => arg 2; whnf)) | ((with_reducible first | refine iB ?_ ?_ | refine gWt ?_ ?_ | refine gWf ?_ ?_ | refine gXt ?_ ?_ | refine gXf ?_ ?_) <;> intro hb <;> (try simp only [hb])) | ((with_reducible show drawP _ _ _ _ _ _ _ _ _); first | ((with_reducible apply kP_rd); exact rfl; exact rfl) | ((with_reducible apply kP_rg); exact rfl; exact rfl; exact rfl) | ((with_reducible apply kP_cv); exact rfl; exact rfl; kernel_rfl) | ((with_reducible apply kP_al); exact rfl; exact rfl; exact rfl) | ((with_reducible apply kP_fl); exact rfl; exact rfl; exact rfl) | ((with_reducible apply kP_ex); exact rfl; exact rfl; kernel_rfl; exact rfl) | ((with_reducible apply kP_eg); exact rfl; exact rfl; kernel_rfl; exact rfl) | ((with_reducible refine kP_nl ?_ ?_))) | ((with_reducible show eOk _ _ _ _ _ _); first | (exact eok_nil) | (refine ke_rd ?_ ?_ ?_; exact rfl) | (apply ke_rg; exact rfl; exact rfl) | (refine ke_cv ?_ ?_ ?_ ?_; exact rfl; kernel_rfl) | (apply ke_fl; exact rfl) | (apply ke_al; exact rfl; exact rfl)) | ((with_reducible refine freshIs_new ?_); kernel_rfl) | (simp only [B, xB, F, reduceLT, reduceLeDiff, reduceEqDiff, reduceAdd, reduceMul, reduceSub, ↓reduceIte, eq_self, z0, z1, z2, y2, w2, e0]))
 refine st_loop (fun m ds tm h => ∃ i v, RqI h0 h0.nx c n r s m ds tm h i v) (cntP s) rfl ⟨0, .nilslice, rfl, rfl, Nat.zero_le _, by simp only [B, xB, F, reduceLT, reduceLeDiff, reduceEqDiff, reduceAdd, reduceMul, reduceSub, ↓reduceIte, eq_self], by simp only [B, xB, F, reduceLT, reduceLeDiff, reduceEqDiff, reduceAdd, reduceMul, reduceSub, ↓reduceIte, eq_self], by simp only [B, xB, F, reduceLT, reduceLeDiff, reduceEqDiff, reduceAdd, reduceMul, reduceSub, ↓reduceIte, eq_self], by simp only [B, xB, F, reduceLT, reduceLeDiff, reduceEqDiff, reduceAdd, reduceMul, reduceSub, ↓reduceIte, eq_self], Grows.none, by have := o3.1.1; omega, (o1.t o2).t o3, w0⟩ (fun m ds tm h hI => ?_)
 clear w0 w2 y0 y2 z0 z1 z2
 obtain ⟨i, v, rfl, rfl, ii, t1, t3, t4, t5, gr, nx, oo, c0⟩ := hI
 have gro := gr.one
 by_cases hi : i * 96 < s.length
 ·have d1 : decide (i * 96 < s.length) = true := decide_eq_true (by omega)
  have w1 : wrapF .i64 (Int.ofNat 96 * Int.ofNat i) = Int.ofNat (i * 96) := by
   have := i64_add (a := 96 * i) (b := 0) (by omega)
   have e : (Int.ofNat 96 * Int.ofNat i) = Int.ofNat (96 * i) := rfl
   rw [e, Nat.mul_comm i 96]
   simpa using this
  have w2 : wrapF .i64 (Int.ofNat (i * 96) + Int.ofNat 96) = Int.ofNat (i * 96 + 96) := i64_add (by omega)
  have w3 : wrapF .u64 (Int.ofNat i) = Int.ofNat i := u64_nat (by omega)
  have w4 : wrapF .i64 (Int.ofNat i + Int.ofNat 1) = Int.ofNat (i + 1) := i64_add (by omega)
  have mn : (if Int.ofNat s.length < Int.ofNat (i * 96 + 96) then Int.ofNat s.length else Int.ofNat (i * 96 + 96)) = Int.ofNat (min (i * 96 + 96) s.length) := by
   have : ∀ a b : Nat, (if ((b : Nat) : Int) < ((a : Nat) : Int) then ((b : Nat) : Int) else ((a : Nat) : Int)) = ((min a b : Nat) : Int) := fun a b => by split <;> omega
   exact this _ _
  have cut := cut_lh s (i * 96) (min (i * 96 + 96) s.length) (by omega) (by omega)
  rw [piece_cut] at cut
  have hM : M64 = 18446744073709551616 := rfl
  have hx1 : hexF c 12 = hexP c 12 := hexF_P 12 c (by simpa using hc) (by omega)
  have hx2 : hexF i 2 = hexP i 2 := hexF_P 2 i (by omega) (by omega)
  have hl12 : (hexL c).length ≤ 12 := hexL_len 11 c (by simpa using hc)
  have hl2 : (hexL i).length ≤ 2 := hexL_len 1 i (by omega)
  have hp12 : (hexP c 12).length = 12 := hexP_len hl12
  have hp2 : (hexP i 2).length = 2 := hexP_len hl2
  have ad1 : ∀ h t x y, binR P h .add t x y (.str [115]) (.str (hexP c 12)) = .val (.str (115 :: hexP c 12)) h := fun h t x y => b_addS (a := [115]) (by simp; omega) h t x y
  have ad2 : ∀ h t x y, binR P h .add t x y (.str (115 :: hexP c 12)) (.str [45]) = .val (.str (115 :: (hexP c 12 ++ [45]))) h := fun h t x y => b_addS (a := 115 :: hexP c 12) (by simp; omega) h t x y
  have ad3 : ∀ h t x y, binR P h .add t x y (.str (115 :: (hexP c 12 ++ [45]))) (.str (hexP i 2)) = .val (.str (keyP c i)) h := fun h t x y => b_addS (a := 115 :: (hexP c 12 ++ [45])) (by simp; omega) h t x y
  repeat' (first | ((with_reducible refine st1 ?_); (conv => whnf); (with_reducible refine ⟨?_⟩)) | ((with_reducible refine st_dp ord19_0 ?_ rfl rfl ?_); exact rfl; (conv => arg 4; whnf); (conv => arg 3; whnf)) | ((with_reducible refine st_dp ord19_1 ?_ rfl rfl ?_); exact rfl; (conv => arg 4; whnf); (conv => arg 3; whnf)) | ((with_reducible refine retW_intro rfl ?_); (conv => arg 2; whnf)) | ((with_reducible first | refine iB ?_ ?_ | refine gWt ?_ ?_ | refine gWf ?_ ?_ | refine gXt ?_ ?_ | refine gXf ?_ ?_) <;> intro hb <;> (try simp only [hb])) | ((with_reducible show drawP _ _ _ _ _ _ _ _ _); first | ((with_reducible apply kP_rd); exact rfl; exact rfl) | ((with_reducible apply kP_rg); exact rfl; exact rfl; exact rfl) | ((with_reducible apply kP_cv); exact rfl; exact rfl; kernel_rfl) | ((with_reducible apply kP_al); exact rfl; exact rfl; exact rfl) | ((with_reducible apply kP_fl); exact rfl; exact rfl; exact rfl) | ((with_reducible apply kP_ex); exact rfl; exact rfl; kernel_rfl; exact rfl) | ((with_reducible apply kP_eg); exact rfl; exact rfl; kernel_rfl; exact rfl) | ((with_reducible refine kP_nl ?_ ?_))) | ((with_reducible show eOk _ _ _ _ _ _); first | (exact eok_nil) | (refine ke_rd ?_ ?_ ?_; exact rfl) | (apply ke_rg; exact rfl; exact rfl) | (refine ke_cv ?_ ?_ ?_ ?_; exact rfl; kernel_rfl) | (apply ke_fl; exact rfl) | (apply ke_al; exact rfl; exact rfl)) | ((with_reducible refine freshIs_new ?_); kernel_rfl) | (simp only [B, xB, F, reduceLT, reduceLeDiff, reduceEqDiff, reduceAdd, reduceMul, reduceSub, ↓reduceIte, eq_self, t1, t3, t4, t5, c0, gro, e1, e2, w1, w2, w3, mn, d1, @ex_sl_lh, cut]))
  refine ((rHexC h c 12 (by omega) (by omega)).call P).mono P ?_
  rintro v4 h4 ⟨rfl, o4⟩
  rw [hx1]
  have hb0 : h0.nx < h.nx:= by omega
  have c4 := kc c0 o4 hb0 (by simp)
  repeat' (first | ((with_reducible refine st1 ?_); (conv => whnf); (with_reducible refine ⟨?_⟩)) | ((with_reducible refine st_dp ord19_0 ?_ rfl rfl ?_); exact rfl; (conv => arg 4; whnf); (conv => arg 3; whnf)) | ((with_reducible refine st_dp ord19_1 ?_ rfl rfl ?_); exact rfl; (conv => arg 4; whnf); (conv => arg 3; whnf)) | ((with_reducible refine retW_intro rfl ?_); (conv => arg 2; whnf)) | ((with_reducible first | refine iB ?_ ?_ | refine gWt ?_ ?_ | refine gWf ?_ ?_ | refine gXt ?_ ?_ | refine gXf ?_ ?_) <;> intro hb <;> (try simp only [hb])) | ((with_reducible show drawP _ _ _ _ _ _ _ _ _); first | ((with_reducible apply kP_rd); exact rfl; exact rfl) | ((with_reducible apply kP_rg); exact rfl; exact rfl; exact rfl) | ((with_reducible apply kP_cv); exact rfl; exact rfl; kernel_rfl) | ((with_reducible apply kP_al); exact rfl; exact rfl; exact rfl) | ((with_reducible apply kP_fl); exact rfl; exact rfl; exact rfl) | ((with_reducible apply kP_ex); exact rfl; exact rfl; kernel_rfl; exact rfl) | ((with_reducible apply kP_eg); exact rfl; exact rfl; kernel_rfl; exact rfl) | ((with_reducible refine kP_nl ?_ ?_))) | ((with_reducible show eOk _ _ _ _ _ _); first | (exact eok_nil) | (refine ke_rd ?_ ?_ ?_; exact rfl) | (apply ke_rg; exact rfl; exact rfl) | (refine ke_cv ?_ ?_ ?_ ?_; exact rfl; kernel_rfl) | (apply ke_fl; exact rfl) | (apply ke_al; exact rfl; exact rfl)) | ((with_reducible refine freshIs_new ?_); kernel_rfl) | (simp only [B, xB, F, reduceLT, reduceLeDiff, reduceEqDiff, reduceAdd, reduceMul, reduceSub, ↓reduceIte, eq_self, t1, t3, t4, t5, c0, c4, gro, e1, e2, w1, w2, w3, mn, d1, @ex_sl_lh, cut, ad1, ad2]))
  refine ((rHexC h4 i 2 (by omega) (by omega)).call P).mono P ?_
  rintro v5 h5 ⟨rfl, o5⟩
  rw [hx2]
  have c5 := kc c4 o5 (by have := o4.1.1; omega) (by simp)
  obtain ⟨h6, h6e⟩ : ∃ h6, h6 = h5.newCells 66 [.str (keyP c i), .str (pieceP s i)] := ⟨_, rfl⟩
  have o6 : Og h5 h6 []:= by rw [h6e]; exact (Og.refl _ _).new _ _
  have x6 : h6.nx = h5.nx + 1:= by rw [h6e]; rfl
  have hrow : h6.row h5.nx 0 2 = some [.str (keyP c i), .str (pieceP s i)] := row_ok (o := 0) (cs := [.str (keyP c i), .str (pieceP s i)]) (fun j hj => by rw [h6e, cellAt_new, Nat.zero_add, if_pos rfl]) (by simp)
  have o46 := (o4.t o5).t o6
  have g6 : Grows 2 (h0.nx + 1) h6 v _ _ := gr.of_get o46.1.1 (fun c e => o46.1.2 c (gr.base e).2 (by simp))
  repeat' (first | ((with_reducible refine st1 ?_); (conv => whnf); (with_reducible refine ⟨?_⟩)) | ((with_reducible refine st_dp ord19_0 ?_ rfl rfl ?_); exact rfl; (conv => arg 4; whnf); (conv => arg 3; whnf)) | ((with_reducible refine st_dp ord19_1 ?_ rfl rfl ?_); exact rfl; (conv => arg 4; whnf); (conv => arg 3; whnf)) | ((with_reducible refine retW_intro rfl ?_); (conv => arg 2; whnf)) | ((with_reducible first | refine iB ?_ ?_ | refine gWt ?_ ?_ | refine gWf ?_ ?_ | refine gXt ?_ ?_ | refine gXf ?_ ?_) <;> intro hb <;> (try simp only [hb])) | ((with_reducible show drawP _ _ _ _ _ _ _ _ _); first | ((with_reducible apply kP_rd); exact rfl; exact rfl) | ((with_reducible apply kP_rg); exact rfl; exact rfl; exact rfl) | ((with_reducible apply kP_cv); exact rfl; exact rfl; kernel_rfl) | ((with_reducible apply kP_al); exact rfl; exact rfl; exact rfl) | ((with_reducible apply kP_fl); exact rfl; exact rfl; exact rfl) | ((with_reducible apply kP_ex); exact rfl; exact rfl; kernel_rfl; exact rfl) | ((with_reducible apply kP_eg); exact rfl; exact rfl; kernel_rfl; exact rfl) | ((with_reducible refine kP_nl ?_ ?_))) | ((with_reducible show eOk _ _ _ _ _ _); first | (exact eok_nil) | (refine ke_rd ?_ ?_ ?_; exact rfl) | (apply ke_rg; exact rfl; exact rfl) | (refine ke_cv ?_ ?_ ?_ ?_; exact rfl; kernel_rfl) | (apply ke_fl; exact rfl) | (apply ke_al; exact rfl; exact rfl)) | ((with_reducible refine freshIs_new ?_); kernel_rfl) | (simp only [B, xB, F, reduceLT, reduceLeDiff, reduceEqDiff, reduceAdd, reduceMul, reduceSub, ↓reduceIte, eq_self, t1, t3, t4, t5, c0, c4, c5, gro, e1, e2, w1, w2, w3, mn, d1, @ex_sl_lh, cut, ad1, ad2, ad3, ← h6e, hrow]))
  have x46 := o46.1.1
  refine exW_growsG (m := 1) (new := [.str (keyP c i), .str (pieceP s i)]) g6 (by omega) (by omega) (by omega) rfl (by omega) (fun v7 h7 g7 x7 old7 blk7 gg7 => ?_)
  have g7o := g7.one
  have hbv : ∀ c, c < h0.nx + 1 → blkOf v ≠ some c := fun c hc e => by have := (gr.base e).1; omega
  have o07 : Og h0 h7 [] := ⟨⟨by have := oo.1.1; omega, fun c hc _ => by rw [old7 c (by omega) (hbv c (by omega)), o46.1.2 c (by omega) (by simp), oo.1.2 c hc (by simp)]⟩, by rw [gg7, o46.2, oo.2]⟩
  have c7 : cellAt h7 h0.nx 0 = some (.int .u64 (.ofNat c)):= by rw [cellAt_of_get (old7 _ (by omega) (hbv _ (by omega)))]; exact kc c0 o46 hb0 (by simp)
  have htk : (prs (c, n, r)).take (i + 1) = (prs (c, n, r)).take i ++ [(keyP c i, pieceP s i)] := by
   have hg : (prs (c, n, r))[i]? = some (keyP c i, pieceP s i) := by
    unfold prs
    rw [List.getElem?_map, List.getElem?_range (by rw [← hs]; omega), ← hs]
    rfl
   rw [List.take_add_one, hg]
   rfl
  have hkc : kpsC ((prs (c, n, r)).take (i + 1)) = kpsC ((prs (c, n, r)).take i) ++ [.str (keyP c i), .str (pieceP s i)] := by
   rw [htk]
   unfold kpsC
   rw [List.flatMap_append]; rfl
  repeat' (first | ((with_reducible refine st1 ?_); (conv => whnf); (with_reducible refine ⟨?_⟩)) | ((with_reducible refine st_dp ord19_0 ?_ rfl rfl ?_); exact rfl; (conv => arg 4; whnf); (conv => arg 3; whnf)) | ((with_reducible refine st_dp ord19_1 ?_ rfl rfl ?_); exact rfl; (conv => arg 4; whnf); (conv => arg 3; whnf)) | ((with_reducible refine retW_intro rfl ?_); (conv => arg 2; whnf)) | ((with_reducible first | refine iB ?_ ?_ | refine gWt ?_ ?_ | refine gWf ?_ ?_ | refine gXt ?_ ?_ | refine gXf ?_ ?_) <;> intro hb <;> (try simp only [hb])) | ((with_reducible show drawP _ _ _ _ _ _ _ _ _); first | ((with_reducible apply kP_rd); exact rfl; exact rfl) | ((with_reducible apply kP_rg); exact rfl; exact rfl; exact rfl) | ((with_reducible apply kP_cv); exact rfl; exact rfl; kernel_rfl) | ((with_reducible apply kP_al); exact rfl; exact rfl; exact rfl) | ((with_reducible apply kP_fl); exact rfl; exact rfl; exact rfl) | ((with_reducible apply kP_ex); exact rfl; exact rfl; kernel_rfl; exact rfl) | ((with_reducible apply kP_eg); exact rfl; exact rfl; kernel_rfl; exact rfl) | ((with_reducible refine kP_nl ?_ ?_))) | ((with_reducible show eOk _ _ _ _ _ _); first | (exact eok_nil) | (refine ke_rd ?_ ?_ ?_; exact rfl) | (apply ke_rg; exact rfl; exact rfl) | (refine ke_cv ?_ ?_ ?_ ?_; exact rfl; kernel_rfl) | (apply ke_fl; exact rfl) | (apply ke_al; exact rfl; exact rfl)) | ((with_reducible refine freshIs_new ?_); kernel_rfl) | (simp only [B, xB, F, reduceLT, reduceLeDiff, reduceEqDiff, reduceAdd, reduceMul, reduceSub, ↓reduceIte, eq_self, t1, t3, t4, t5, g7o, w4]))
  exact ⟨cntP s - (i + 1), by omega, i + 1, v7, rfl, rfl, by omega, by simp only [B, xB, F, reduceLT, reduceLeDiff, reduceEqDiff, reduceAdd, reduceMul, reduceSub, ↓reduceIte, eq_self, t1], by simp only [B, xB, F, reduceLT, reduceLeDiff, reduceEqDiff, reduceAdd, reduceMul, reduceSub, ↓reduceIte, eq_self, t3], by simp only [B, xB, F, reduceLT, reduceLeDiff, reduceEqDiff, reduceAdd, reduceMul, reduceSub, ↓reduceIte, eq_self], by simp only [B, xB, F, reduceLT, reduceLeDiff, reduceEqDiff, reduceAdd, reduceMul, reduceSub, ↓reduceIte, eq_self], by rw [hkc]; exact g7, by omega, o07, c7⟩
 ·have d1 : decide (i * 96 < s.length) = false := decide_eq_false hi
  have w1 : wrapF .i64 (Int.ofNat 96 * Int.ofNat i) = Int.ofNat (i * 96) := by
   have := i64_add (a := 96 * i) (b := 0) (by omega)
   have e : (Int.ofNat 96 * Int.ofNat i) = Int.ofNat (96 * i) := rfl
   rw [e, Nat.mul_comm i 96]
   simpa using this
  obtain rfl : i = cntP s:= by omega
  rw [← hlp, List.take_length] at gr
  repeat' (first | ((with_reducible refine st1 ?_); (conv => whnf); (with_reducible refine ⟨?_⟩)) | ((with_reducible refine st_dp ord19_0 ?_ rfl rfl ?_); exact rfl; (conv => arg 4; whnf); (conv => arg 3; whnf)) | ((with_reducible refine st_dp ord19_1 ?_ rfl rfl ?_); exact rfl; (conv => arg 4; whnf); (conv => arg 3; whnf)) | ((with_reducible refine retW_intro rfl ?_); (conv => arg 2; whnf)) | ((with_reducible first | refine iB ?_ ?_ | refine gWt ?_ ?_ | refine gWf ?_ ?_ | refine gXt ?_ ?_ | refine gXf ?_ ?_) <;> intro hb <;> (try simp only [hb])) | ((with_reducible show drawP _ _ _ _ _ _ _ _ _); first | ((with_reducible apply kP_rd); exact rfl; exact rfl) | ((with_reducible apply kP_rg); exact rfl; exact rfl; exact rfl) | ((with_reducible apply kP_cv); exact rfl; exact rfl; kernel_rfl) | ((with_reducible apply kP_al); exact rfl; exact rfl; exact rfl) | ((with_reducible apply kP_fl); exact rfl; exact rfl; exact rfl) | ((with_reducible apply kP_ex); exact rfl; exact rfl; kernel_rfl; exact rfl) | ((with_reducible apply kP_eg); exact rfl; exact rfl; kernel_rfl; exact rfl) | ((with_reducible refine kP_nl ?_ ?_))) | ((with_reducible show eOk _ _ _ _ _ _); first | (exact eok_nil) | (refine ke_rd ?_ ?_ ?_; exact rfl) | (apply ke_rg; exact rfl; exact rfl) | (refine ke_cv ?_ ?_ ?_ ?_; exact rfl; kernel_rfl) | (apply ke_fl; exact rfl) | (apply ke_al; exact rfl; exact rfl)) | ((with_reducible refine freshIs_new ?_); kernel_rfl) | (simp only [B, xB, F, reduceLT, reduceLeDiff, reduceEqDiff, reduceAdd, reduceMul, reduceSub, ↓reduceIte, eq_self, t1, t3, t4, t5, d1, w1, gro]))
  exact ⟨oo, gr.wk (by omega)⟩
end
end Go.Proofs.YtllmfnedkhiomaaDoor.S

namespace Go.Proofs.YtllmfnedkhiomaaDoor.S
open Go Go.AX
noncomputable section
set_option maxRecDepth 100000
structure RfAt (h : H) (b : Nat) (L : List Rw) (v : AV) : Prop where
 lt : b < h.nx
 c0 : cellAt h b 0 = some v
 wr : wrAt h b = true
 gr : Grows 3 (b + 1) h v L.length (rwsC L)
theorem RfAt.keep {h h' : H} {b : Nat} {L : List Rw} {v : AV} (k : RfAt h b L v) {S : List Nat} (o : Og h h' S) (hS : ∀ c, c ∈ S → c < b ∨ h.nx ≤ c) : RfAt h' b L v :=
 have hb : b ∉ S := fun q => by have := k.lt; rcases hS b q with h | h <;> omega
 ⟨Nat.lt_of_lt_of_le k.lt o.1.1, kc k.c0 o k.lt hb, kw k.wr o k.lt hb, k.gr.of_get o.1.1 fun c e => o.1.2 c (k.gr.base e).2 fun q => by have := k.gr.base e; rcases hS c q with h | h <;> omega⟩
def fIx (c : Nat) (L : List Rw) : Nat := L.findIdx fun x => decide (x.1 = c)
def fV (c : Nat) (L : List Rw) : AV := .int .i64 (if fIx c L < L.length then Int.ofNat (fIx c L) else -1)
theorem fIx_at {c : Nat} {L : List Rw} (h : fIx c L < L.length) : ∃ y, L[fIx c L]? = some (c, y) ∧ getB c L = some y := by
 unfold fIx at h ⊢
 have h1 := List.findIdx_getElem (xs := L) (p := fun x => decide (x.1 = c)) (w := h)
 obtain ⟨⟨a, y⟩, hy⟩ : ∃ x, x = L[L.findIdx fun x => decide (x.1 = c)] := ⟨_, rfl⟩
 rw [← hy] at h1
 have h1 : a = c := of_decide_eq_true h1
 subst h1
 refine ⟨y, by rw [List.getElem?_eq_getElem h, ← hy], ?_⟩
 unfold getB
 have : L.find? (fun p => decide (a = p.1)) = L.find? (fun x => decide (x.1 = a)):= by congr 1; funext x; simp [eq_comm]
 rw [this, List.find?_eq_getElem?_findIdx]
 rw [List.getElem?_eq_getElem h, ← hy]; rfl
theorem fIx_no {c : Nat} {L : List Rw} (h : ¬ fIx c L < L.length) : getB c L = none := by
 unfold getB
 rw [Option.map_eq_none_iff, List.find?_eq_none]
 intro x hx
 have : L.findIdx (fun x => decide (x.1 = c)) = L.length := by
  unfold fIx at h
  have := List.findIdx_le_length (xs := L) (p := fun x => decide (x.1 = c))
  omega
 have := (List.findIdx_eq_length.1 this) x hx
 simp at this ⊢
 exact fun e => this e.symm
theorem fIx_lt {c i : Nat} {L : List Rw} {x : Rw} (h : i < fIx c L) (hx : L[i]? = some x) : x.1 ≠ c := by
 unfold fIx at h
 have := List.not_of_lt_findIdx h
 obtain ⟨h1, h2⟩ := List.getElem?_eq_some_iff.1 hx
 rw [h2] at this
 simpa using this
theorem rws_at {h : H} {bv base : Nat} {cap : Cap} {L : List Rw} (g : Grows 3 base h (.slice bv 0 L.length cap) L.length (rwsC L)) {i : Nat} {x : Rw} (hx : L[i]? = some x) :
  cellAt h bv (i * 3) = some (.int .u64 (.ofNat x.1)) ∧ cellAt h bv (i * 3 + 1) = some (.int .u64 (.ofNat x.2.1)) ∧ cellAt h bv (i * 3 + 2) = some (.str x.2.2) := by
 have key : ∀ (L : List Rw) (i : Nat) (x : Rw), L[i]? = some x → (rwsC L)[i * 3]? = some (.int .u64 (.ofNat x.1)) ∧ (rwsC L)[i * 3 + 1]? = some (.int .u64 (.ofNat x.2.1)) ∧ (rwsC L)[i * 3 + 2]? = some (.str x.2.2) := by
  intro L
  induction L with
  | nil => intro i x h; simp at h
  | cons a L ih =>
   intro i x h
   cases i with
   | zero => simp at h; subst h; exact ⟨rfl, rfl, rfl⟩
   | succ i =>
    have := ih i x (by simpa using h)
    have e : ∀ k, (rwsC (a :: L))[(i + 1) * 3 + k]? = (rwsC L)[i * 3 + k]? := fun k => by
     unfold rwsC
     rw [List.flatMap_cons, List.getElem?_append_right (by simp [rwC]; omega)]
     congr 1; simp [rwC]; omega
    exact ⟨by have := e 0; simp only [Nat.add_zero] at this; rw [this]; exact (ih i x (by simpa using h)).1, by rw [e 1]; exact this.2.1, by rw [e 2]; exact this.2.2⟩
 obtain ⟨a, b, c⟩ := key L i x hx
 exact ⟨by rw [g.at_]; exact a, by rw [g.at_]; exact b, by rw [g.at_]; exact c⟩
structure FdI (h0 : H) (b c : Nat) (L : List Rw) (m : Nat) (ds : List Nat) (tm : T AV) (h : H) (i : Nat) : Prop where
 ds : ds = []
 nn : m = L.length - i
 ii : i ≤ fIx c L
 t0 : tm.get 0 = some (.ptr b 0)
 t1 : tm.get 1 = some (.int .u64 (.ofNat c))
 t5 : tm.get 5 = some (.int .i64 (.ofNat i))
 oo : Og h0 h []
theorem findC (h0 : H) (b c : Nat) (L : List Rw) (v : AV) (k : RfAt h0 b L v) (hz : L.length ≤ 1000) : PushC P (.enter 18 [.ptr b 0, .int .u64 (.ofNat c)] h0) (SaysG h0 (fV c L)) := by
 have hlen := k.gr.slice.len (P := P) u39a
 have hle : fIx c L ≤ L.length := List.findIdx_le_length
 have hv1 := k.gr.one
 refine pushC_of_codeW (fn := Tryd.f18) (c := bodyC Tryd.f18) Tryd.func18 rfl ?_
 show codeW P 18 26 none _ _ _ _ _
 refine codeW_root ?_
 repeat' (first | ((with_reducible refine st1 ?_); (conv => whnf); (with_reducible refine ⟨?_⟩)) | ((with_reducible refine retW_intro rfl ?_); (conv => arg 2; whnf)) | ((with_reducible first | refine iB ?_ ?_ | refine gWt ?_ ?_ | refine gWf ?_ ?_) <;> intro hb <;> (try simp only [hb])) | (simp only [B, F, reduceLT, reduceLeDiff, reduceEqDiff, reduceAdd, reduceMul, reduceSub, ↓reduceIte, eq_self]))
 refine st_loop (fun m ds tm h => ∃ i, FdI h0 b c L m ds tm h i) L.length rfl ⟨0, rfl, rfl, Nat.zero_le _, by simp only [B, F, reduceLT, reduceLeDiff, reduceEqDiff, reduceAdd, reduceMul, reduceSub, ↓reduceIte, eq_self], by simp only [B, F, reduceLT, reduceLeDiff, reduceEqDiff, reduceAdd, reduceMul, reduceSub, ↓reduceIte, eq_self], by simp only [B, F, reduceLT, reduceLeDiff, reduceEqDiff, reduceAdd, reduceMul, reduceSub, ↓reduceIte, eq_self], Og.refl _ _⟩ (fun m ds tm h hI => ?_)
 obtain ⟨i, rfl, rfl, ii, t0, t1, t5, oo⟩ := hI
 have kh := k.keep oo (by simp)
 have c0 := kh.c0
 by_cases hi : i < L.length
 ·have d1 : decide (i < L.length) = true := decide_eq_true hi
  have lt1 : (i < L.length) = True:= by simp [hi]
  obtain ⟨x, hx⟩ : ∃ x, L[i]? = some x := ⟨_, List.getElem?_eq_getElem hi⟩
  have gr := kh.gr
  obtain ⟨bv, ov, cv, rfl, hbv, -⟩ := gr.slice.place (by omega)
  obtain rfl : ov = 0:= by cases gr; rfl
  obtain ⟨q0, q1, q2⟩ := rws_at gr hx
  have w1 : wrapF .i64 (Int.ofNat i + Int.ofNat 1) = Int.ofNat (i + 1) := i64_add (by omega)
  by_cases hc : x.1 = c
  ·have d2 : decide (x.1 = c) = true := decide_eq_true hc
   have hf : i = fIx c L := by
    rcases Nat.lt_or_ge i (fIx c L) with q | q
    ·exact absurd hc (fIx_lt q hx)
    ·omega
   have hv : fV c L = .int .i64 (.ofNat i):= by unfold fV; rw [← hf, if_pos hi]
   rw [hv]
   repeat' (first | ((with_reducible refine st1 ?_); (conv => whnf); (with_reducible refine ⟨?_⟩)) | ((with_reducible refine retW_intro rfl ?_); (conv => arg 2; whnf)) | ((with_reducible first | refine iB ?_ ?_ | refine gWt ?_ ?_ | refine gWf ?_ ?_) <;> intro hb <;> (try simp only [hb])) | (simp only [B, F, reduceLT, reduceLeDiff, reduceEqDiff, reduceAdd, reduceMul, reduceSub, ↓reduceIte, eq_self, t0, t1, t5, c0, hv1, hlen, d1, lt1, Nat.zero_add, q0, d2]))
   exact ⟨rfl, oo⟩
  ·have d2 : decide (x.1 = c) = false := decide_eq_false hc
   have hlt : i < fIx c L := by
    rcases Nat.lt_or_ge i (fIx c L) with q | q
    ·exact q
    ·obtain rfl : i = fIx c L:= by omega
     obtain ⟨y, e, -⟩ := fIx_at hi
     rw [hx] at e
     cases e
     exact absurd rfl hc
   repeat' (first | ((with_reducible refine st1 ?_); (conv => whnf); (with_reducible refine ⟨?_⟩)) | ((with_reducible refine retW_intro rfl ?_); (conv => arg 2; whnf)) | ((with_reducible first | refine iB ?_ ?_ | refine gWt ?_ ?_ | refine gWf ?_ ?_) <;> intro hb <;> (try simp only [hb])) | (simp only [B, F, reduceLT, reduceLeDiff, reduceEqDiff, reduceAdd, reduceMul, reduceSub, ↓reduceIte, eq_self, t0, t1, t5, c0, hv1, hlen, d1, lt1, Nat.zero_add, q0, d2, w1]))
   exact ⟨L.length - (i + 1), by omega, i + 1, rfl, rfl, by omega, by simp only [B, F, reduceLT, reduceLeDiff, reduceEqDiff, reduceAdd, reduceMul, reduceSub, ↓reduceIte, eq_self, t0], by simp only [B, F, reduceLT, reduceLeDiff, reduceEqDiff, reduceAdd, reduceMul, reduceSub, ↓reduceIte, eq_self, t1], by simp only [B, F, reduceLT, reduceLeDiff, reduceEqDiff, reduceAdd, reduceMul, reduceSub, ↓reduceIte, eq_self], oo⟩
 ·have d1 : decide (i < L.length) = false := decide_eq_false hi
  have hv : fV c L = .int .i64 (-1):= by unfold fV; rw [if_neg (by omega)]
  rw [hv]
  repeat' (first | ((with_reducible refine st1 ?_); (conv => whnf); (with_reducible refine ⟨?_⟩)) | ((with_reducible refine retW_intro rfl ?_); (conv => arg 2; whnf)) | ((with_reducible first | refine iB ?_ ?_ | refine gWt ?_ ?_ | refine gWf ?_ ?_) <;> intro hb <;> (try simp only [hb])) | (simp only [B, F, reduceLT, reduceLeDiff, reduceEqDiff, reduceAdd, reduceMul, reduceSub, ↓reduceIte, eq_self, t0, t1, t5, c0, hv1, hlen, d1]))
  exact ⟨rfl, oo⟩
end
end Go.Proofs.YtllmfnedkhiomaaDoor.S

namespace Go.Proofs.YtllmfnedkhiomaaDoor.S
open Go Go.AX
noncomputable section
set_option maxRecDepth 100000
theorem rSeenC (h : H) (b c num : Nat) (L : List Rw) (v : AV) (k : RfAt h b L v) (hz : L.length ≤ 1000) (hn : num < M64) : PushC P (.enter 10 [.ptr b 0, .int .u64 (.ofNat c), .int .u64 (.ofNat num)] h) (SaysG h (seenV (seenE L c num))) := by
 have e0 : bytesOf { data := #[] } = [] := rfl
 have hlen := k.gr.slice.len (P := P) u39a
 have hv1 := k.gr.one
 unfold seenE
 refine pushC_of_codeW (fn := Tryd.f10) (c := bodyC Tryd.f10) Tryd.func10 rfl ?_
 show codeW P 10 62 none _ _ _ _ _
 refine codeW_root ?_
 by_cases q1 : c < 1
 ·have d1 : decide (c < 1) = true := decide_eq_true q1
  rw [if_pos (.inl (by omega))]
  repeat' (first | ((with_reducible refine st1 ?_); (conv => whnf); (with_reducible refine ⟨?_⟩)) | ((with_reducible refine retW_intro rfl ?_); (conv => arg 2; whnf)) | ((with_reducible first | refine iB ?_ ?_ | refine gWt ?_ ?_ | refine gWf ?_ ?_) <;> intro hb <;> (try simp only [hb])) | (simp only [B, F, reduceLT, reduceLeDiff, reduceEqDiff, reduceAdd, reduceMul, reduceSub, ↓reduceIte, eq_self, e0, d1]))
  exact ⟨rfl, Og.refl _ _⟩
 have d1 : decide (c < 1) = false := decide_eq_false q1
 by_cases q2 : 281474976710656 ≤ c
 ·have d2 : decide (281474976710656 ≤ c) = true := decide_eq_true q2
  rw [if_pos (.inr (.inl q2))]
  repeat' (first | ((with_reducible refine st1 ?_); (conv => whnf); (with_reducible refine ⟨?_⟩)) | ((with_reducible refine retW_intro rfl ?_); (conv => arg 2; whnf)) | ((with_reducible first | refine iB ?_ ?_ | refine gWt ?_ ?_ | refine gWf ?_ ?_) <;> intro hb <;> (try simp only [hb])) | (simp only [B, F, reduceLT, reduceLeDiff, reduceEqDiff, reduceAdd, reduceMul, reduceSub, ↓reduceIte, eq_self, e0, d1, d2]))
  exact ⟨rfl, Og.refl _ _⟩
 have d2 : decide (281474976710656 ≤ c) = false := decide_eq_false q2
 by_cases q3 : num = 0
 ·have d3 : decide (num = 0) = true := decide_eq_true q3
  rw [if_pos (.inr (.inr q3))]
  repeat' (first | ((with_reducible refine st1 ?_); (conv => whnf); (with_reducible refine ⟨?_⟩)) | ((with_reducible refine retW_intro rfl ?_); (conv => arg 2; whnf)) | ((with_reducible first | refine iB ?_ ?_ | refine gWt ?_ ?_ | refine gWf ?_ ?_) <;> intro hb <;> (try simp only [hb])) | (simp only [B, F, reduceLT, reduceLeDiff, reduceEqDiff, reduceAdd, reduceMul, reduceSub, ↓reduceIte, eq_self, e0, d1, d2, d3]))
  exact ⟨rfl, Og.refl _ _⟩
 have d3 : decide (num = 0) = false := decide_eq_false q3
 rw [if_neg (by omega)]
 repeat' (first | ((with_reducible refine st1 ?_); (conv => whnf); (with_reducible refine ⟨?_⟩)) | ((with_reducible refine retW_intro rfl ?_); (conv => arg 2; whnf)) | ((with_reducible first | refine iB ?_ ?_ | refine gWt ?_ ?_ | refine gWf ?_ ?_) <;> intro hb <;> (try simp only [hb])) | (simp only [B, F, reduceLT, reduceLeDiff, reduceEqDiff, reduceAdd, reduceMul, reduceSub, ↓reduceIte, eq_self, e0, d1, d2, d3]))
 refine ((findC h b c L v k hz).call P).mono P ?_
 rintro _ h1 ⟨rfl, o1⟩
 have k1 := k.keep o1 (by simp)
 have c0 := k1.c0
 by_cases hf : fIx c L < L.length
 ·obtain ⟨⟨n, s⟩, hx, hg⟩ := fIx_at hf
  rw [hg]
  simp only
  have hv : fV c L = .int .i64 (.ofNat (fIx c L)):= by unfold fV; rw [if_pos hf]
  rw [hv]
  have d4 : decide (fIx c L < 0) = false := decide_eq_false (by omega)
  have lt1 : (fIx c L < L.length) = True:= by simp [hf]
  have gr := k1.gr
  obtain ⟨bv, ov, cv, rfl, hbv, -⟩ := gr.slice.place (by omega)
  obtain rfl : ov = 0:= by cases gr; rfl
  obtain ⟨p0, p1, p2⟩ := rws_at gr hx
  have gd : decide (0 ≤ fIx c L) = true := decide_eq_true (Nat.zero_le _)
  by_cases q4 : n = num
  ·have d5 : decide (n = num) = true := decide_eq_true q4
   rw [if_pos q4.symm]
   repeat' (first | ((with_reducible refine st1 ?_); (conv => whnf); (with_reducible refine ⟨?_⟩)) | ((with_reducible refine retW_intro rfl ?_); (conv => arg 2; whnf)) | ((with_reducible first | refine iB ?_ ?_ | refine gWt ?_ ?_ | refine gWf ?_ ?_) <;> intro hb <;> (try simp only [hb])) | (simp only [B, F, reduceLT, reduceLeDiff, reduceEqDiff, reduceAdd, reduceMul, reduceSub, ↓reduceIte, eq_self, e0, c0, hv1, hlen, lt1, Nat.zero_add, p1, p2, d4, d5, gd]))
   exact ⟨rfl, o1⟩
  have d5 : decide (n = num) = false := decide_eq_false q4
  rw [if_neg (fun e => q4 e.symm)]
  by_cases q5 : num < n
  ·have d6 : decide (num < n) = true := decide_eq_true q5
   rw [if_pos q5]
   repeat' (first | ((with_reducible refine st1 ?_); (conv => whnf); (with_reducible refine ⟨?_⟩)) | ((with_reducible refine retW_intro rfl ?_); (conv => arg 2; whnf)) | ((with_reducible first | refine iB ?_ ?_ | refine gWt ?_ ?_ | refine gWf ?_ ?_) <;> intro hb <;> (try simp only [hb])) | (simp only [B, F, reduceLT, reduceLeDiff, reduceEqDiff, reduceAdd, reduceMul, reduceSub, ↓reduceIte, eq_self, e0, c0, hv1, hlen, lt1, Nat.zero_add, p1, p2, d4, d5, d6, gd]))
   exact ⟨rfl, o1⟩
  have d6 : decide (num < n) = false := decide_eq_false q5
  rw [if_neg q5]
  have ws : wrapF .u64 (Int.ofNat num - Int.ofNat n) = Int.ofNat (num - n) := by
   have e : (Int.ofNat num - Int.ofNat n) = Int.ofNat (num - n) := by
    show (num : Int) - (n : Int) = ((num - n : Nat) : Int)
    omega
   rw [e]; exact u64_nat (by have : M64 = 18446744073709551616 := rfl; omega)
  by_cases q6 : n + 1 < num
  ·have d7 : decide (1 < num - n) = true := decide_eq_true (by omega)
   rw [if_pos q6]
   repeat' (first | ((with_reducible refine st1 ?_); (conv => whnf); (with_reducible refine ⟨?_⟩)) | ((with_reducible refine retW_intro rfl ?_); (conv => arg 2; whnf)) | ((with_reducible first | refine iB ?_ ?_ | refine gWt ?_ ?_ | refine gWf ?_ ?_) <;> intro hb <;> (try simp only [hb])) | (simp only [B, F, reduceLT, reduceLeDiff, reduceEqDiff, reduceAdd, reduceMul, reduceSub, ↓reduceIte, eq_self, e0, c0, hv1, hlen, lt1, Nat.zero_add, p1, p2, d4, d5, d6, ws, d7, gd]))
   exact ⟨rfl, o1⟩
  have d7 : decide (1 < num - n) = false := decide_eq_false (by omega)
  rw [if_neg q6]
  repeat' (first | ((with_reducible refine st1 ?_); (conv => whnf); (with_reducible refine ⟨?_⟩)) | ((with_reducible refine retW_intro rfl ?_); (conv => arg 2; whnf)) | ((with_reducible first | refine iB ?_ ?_ | refine gWt ?_ ?_ | refine gWf ?_ ?_) <;> intro hb <;> (try simp only [hb])) | (simp only [B, F, reduceLT, reduceLeDiff, reduceEqDiff, reduceAdd, reduceMul, reduceSub, ↓reduceIte, eq_self, e0, c0, hv1, hlen, lt1, Nat.zero_add, p1, p2, d4, d5, d6, ws, d7, gd]))
  exact ⟨rfl, o1⟩
 ·have hg := fIx_no hf
  rw [hg]
  simp only
  have hv : fV c L = .int .i64 (-1):= by unfold fV; rw [if_neg hf]
  rw [hv]
  have gd : decide (Int.ofNat 0 ≤ (-1 : Int)) = false:= by decide
  have gd2 : decide ((-1 : Int) < Int.ofNat 0) = true:= by decide
  have d5 : decide (num < 0) = false := decide_eq_false (by omega)
  have ws : wrapF .u64 (Int.ofNat num - Int.ofNat 0) = Int.ofNat num := by
   have e : (Int.ofNat num - Int.ofNat 0) = Int.ofNat num := by
    show (num : Int) - ((0 : Nat) : Int) = (num : Int)
    omega
   rw [e]; exact u64_nat (by have : M64 = 18446744073709551616 := rfl; omega)
  by_cases q6 : 1 < num
  ·have d7 : decide (1 < num) = true := decide_eq_true q6
   rw [if_pos q6]
   repeat' (first | ((with_reducible refine st1 ?_); (conv => whnf); (with_reducible refine ⟨?_⟩)) | ((with_reducible refine retW_intro rfl ?_); (conv => arg 2; whnf)) | ((with_reducible first | refine iB ?_ ?_ | refine gWt ?_ ?_ | refine gWf ?_ ?_) <;> intro hb <;> (try simp only [hb])) | (simp only [B, F, reduceLT, reduceLeDiff, reduceEqDiff, reduceAdd, reduceMul, reduceSub, ↓reduceIte, eq_self, e0, c0, hv1, hlen, d5, ws, d7, gd, gd2]))
   exact ⟨rfl, o1⟩
  have d7 : decide (1 < num) = false := decide_eq_false q6
  rw [if_neg q6]
  by_cases q8 : 64 ≤ L.length
  ·have d8 : decide (64 ≤ L.length) = true := decide_eq_true q8
   rw [if_pos q8]
   repeat' (first | ((with_reducible refine st1 ?_); (conv => whnf); (with_reducible refine ⟨?_⟩)) | ((with_reducible refine retW_intro rfl ?_); (conv => arg 2; whnf)) | ((with_reducible first | refine iB ?_ ?_ | refine gWt ?_ ?_ | refine gWf ?_ ?_) <;> intro hb <;> (try simp only [hb])) | (simp only [B, F, reduceLT, reduceLeDiff, reduceEqDiff, reduceAdd, reduceMul, reduceSub, ↓reduceIte, eq_self, e0, c0, hv1, hlen, d5, ws, d7, d8, gd, gd2]))
   exact ⟨rfl, o1⟩
  have d8 : decide (64 ≤ L.length) = false := decide_eq_false q8
  rw [if_neg q8]
  repeat' (first | ((with_reducible refine st1 ?_); (conv => whnf); (with_reducible refine ⟨?_⟩)) | ((with_reducible refine retW_intro rfl ?_); (conv => arg 2; whnf)) | ((with_reducible first | refine iB ?_ ?_ | refine gWt ?_ ?_ | refine gWf ?_ ?_) <;> intro hb <;> (try simp only [hb])) | (simp only [B, F, reduceLT, reduceLeDiff, reduceEqDiff, reduceAdd, reduceMul, reduceSub, ↓reduceIte, eq_self, e0, c0, hv1, hlen, d5, ws, d7, d8, gd, gd2]))
  exact ⟨rfl, o1⟩
end
end Go.Proofs.YtllmfnedkhiomaaDoor.S

namespace Go.Proofs.YtllmfnedkhiomaaDoor.S
open Go Go.AX
noncomputable section
set_option maxRecDepth 100000
def outR (old new : List Kp) : List Kp := new ++ (old.drop new.length).map fun p => (p.1, [])
theorem kps_app (A B : List Kp) : kpsC (A ++ B) = kpsC A ++ kpsC B:= by unfold kpsC; rw [List.flatMap_append]
theorem kps_at {h : H} {bv base : Nat} {cap : Cap} {L : List Kp} (g : Grows 2 base h (.slice bv 0 L.length cap) L.length (kpsC L)) {i : Nat} {x : Kp} (hx : L[i]? = some x) :
  cellAt h bv (i * 2) = some (.str x.1) ∧ cellAt h bv (i * 2 + 1) = some (.str x.2) := by
 have key : ∀ (L : List Kp) (i : Nat) (x : Kp), L[i]? = some x → (kpsC L)[i * 2]? = some (.str x.1) ∧ (kpsC L)[i * 2 + 1]? = some (.str x.2) := by
  intro L
  induction L with
  | nil => intro i x h; simp at h
  | cons a L ih =>
   intro i x h
   cases i with
   | zero => simp at h; subst h; exact ⟨rfl, rfl⟩
   | succ i =>
    have := ih i x (by simpa using h)
    have e : ∀ k, (kpsC (a :: L))[(i + 1) * 2 + k]? = (kpsC L)[i * 2 + k]? := fun k => by
     unfold kpsC
     rw [List.flatMap_cons, List.getElem?_append_right (by simp [kpC]; omega)]
     congr 1; simp [kpC]; omega
    exact ⟨by have := e 0; simp only [Nat.add_zero] at this; rw [this]; exact (ih i x (by simpa using h)).1, by rw [e 1]; exact this.2⟩
 obtain ⟨a, b⟩ := key L i x hx
 exact ⟨by rw [g.at_]; exact a, by rw [g.at_]; exact b⟩
theorem rws_set (c num : Nat) (s : List Nat) : ∀ (L : List Rw) (i : Nat) (y : Lst), L[i]? = some (c, y) → rwsC (L.set i (c, num, s)) = ((rwsC L).set (i * 3 + 1) (.int .u64 (.ofNat num))).set (i * 3 + 2) (.str s)
 | [], i, y, h => by simp at h
 | a :: L, 0, y, h => by simp at h; subst h; rfl
 | a :: L, i + 1, y, h => by
  have ih := rws_set c num s L i y (by simpa using h)
  have e1 : (i + 1) * 3 + 1 = (i * 3 + 1) + 3:= by omega
  have e2 : (i + 1) * 3 + 2 = (i * 3 + 2) + 3:= by omega
  rw [List.set_cons_succ, e1, e2]
  show rwC a ++ rwsC (L.set i (c, num, s)) = _
  rw [ih]
  rfl
structure OgV (h h' : H) (b : Nat) (v : AV) : Prop where
 nx : h.nx ≤ h'.nx
 old : ∀ c, c < h.nx → c ≠ b → blkOf v ≠ some c → h'.t.get c = h.t.get c
 g : h'.g = h.g
theorem OgV.t {h h1 h' : H} {b : Nat} {v : AV} (o : Og h h1 []) (w : OgV h1 h' b v) : OgV h h' b v := ⟨Nat.le_trans o.1.1 w.nx, fun c hc h1 h2 => by rw [w.old c (Nat.lt_of_lt_of_le hc o.1.1) h1 h2, o.1.2 c hc (by simp)], w.g.trans o.2⟩
theorem OgV.e {h h1 h' : H} {b : Nat} {v : AV} (w : OgV h h1 b v) (o : Og h1 h' []) : OgV h h' b v := ⟨Nat.le_trans w.nx o.1.1, fun c hc q1 q2 => by rw [o.1.2 c (Nat.lt_of_lt_of_le hc w.nx) (by simp), w.old c hc q1 q2], o.2.trans w.g⟩
structure DoneR (h h' : H) (b : Nat) (v : AV) (L' : List Rw) (out : List Kp) (ov : AV) : Prop where
 og : OgV h h' b v
 rf : ∃ v', RfAt h' b L' v'
 gr : Grows 2 h.nx h' ov out.length (kpsC out)
def outX (old new : List Kp) (i : Nat) : List Kp := new ++ ((old.drop new.length).take (i - new.length)).map fun p => (p.1, [])
theorem outX_len {old new : List Kp} {i : Nat} (h1 : new.length ≤ i) (h2 : i ≤ max new.length old.length) : (outX old new i).length = i := by
 unfold outX
 rw [List.length_append, List.length_map, List.length_take, List.length_drop]
 omega
theorem outX_s {old new : List Kp} {i : Nat} {x : Kp} (h1 : new.length ≤ i) (hx : old[i]? = some x) : outX old new (i + 1) = outX old new i ++ [(x.1, [])] := by
 unfold outX
 rw [show i + 1 - new.length = (i - new.length) + 1 by omega, List.take_add_one, List.getElem?_drop, show new.length + (i - new.length) = i by omega, hx]
 simp
theorem outX_end {old new : List Kp} {i : Nat} (h1 : old.length ≤ i) : outX old new i = outR old new := by
 unfold outX outR
 rw [List.take_of_length_le (by rw [List.length_drop]; omega)]
structure DkI (h3 : H) (nb : Nat) (ov : AV) (old new : List Kp) (m : Nat) (ds : List Nat) (tm : T AV) (h : H) (i : Nat) (v : AV) : Prop where
 ds : ds = []
 nn : m = old.length - i
 ii : new.length ≤ i ∧ i ≤ max new.length old.length
 t14 : tm.get 14 = some ov
 t16 : tm.get 16 = some v
 t17 : tm.get 17 = some (.int .i64 (.ofNat i))
 gr : Grows 2 nb h v i (kpsC (outX old new i))
 nx : h3.nx ≤ h.nx
 ol : ∀ c, c < nb → h.t.get c = h3.t.get c
 g : h.g = h3.g
structure Stop11 (p : Prop) : Prop where
 go : p
theorem stop11 {ds : List Nat} {tm : T AV} {h : H} {Q : KQ} (hw : Stop11 (codeW P 11 133 none (codeI (bodyC Tryd.f11) [1, 1, 1, 1, 1, 1, 1, 1]) ds tm h Q)) : codeW P 11 133 none (codeI (bodyC Tryd.f11) [1, 1, 1, 1, 1, 1, 1, 1]) ds tm h Q := hw.go
theorem doneRT (h0 h : H) (b c num i : Nat) (s : List Nat) (L1 : List Rw) (v0 v1 ov : AV) (ob : Nat) (y0 : Lst) (old : List Kp) (k : RfAt h b L1 v1) (hx : L1[i]? = some (c, y0)) (hz : L1.length ≤ 1000) (hc : c < 281474976710656) (hn : num < M64) (hs : s.length ≤ 4000)
  (og : OgV h0 h b v0) (hv : blkOf v1 = blkOf v0 ∨ ∀ d, blkOf v1 = some d → h0.nx ≤ d) (gro : Grows 2 ob h ov old.length (kpsC old)) (hno : ∀ d, blkOf ov = some d → d ≠ b ∧ blkOf v1 ≠ some d) (hzo : old.length ≤ 100)
  (tm : T AV) (t0 : tm.get 0 = some (.ptr b 0)) (t2 : tm.get 2 = some (.int .u64 (.ofNat num))) (t3 : tm.get 3 = some (.str s)) (t13 : tm.get 13 = some (.int .i64 (.ofNat i))) (t14 : tm.get 14 = some ov) :
  codeW P 11 133 none (codeI (bodyC Tryd.f11) [1, 1, 1, 1, 1, 1, 1, 1]) [] tm h (retK P Tryd.f11 fun v h' => ∃ w, v = .tuple [w, .int .i64 (.ofNat 0)] ∧ DoneR h0 h' b v0 (L1.set i (c, num, s)) (outR old (prs (c, num, s))) w) := by
 have hlen := k.gr.slice.len (P := P) u39a
 have hv1 := k.gr.one
 have hil := (List.getElem?_eq_some_iff.1 hx).1
 have lt1 : (i < L1.length) = True:= by simp [hil]
 have c0 := k.c0
 have gr := k.gr
 obtain ⟨bv, ow, cv, rfl, hbv, -⟩ := gr.slice.place (by omega)
 obtain rfl : ow = 0:= by cases gr; rfl
 obtain ⟨p0, p1, p2⟩ := rws_at gr hx
 have wr := gr.wr
 have hbb : b < bv:= by have := (gr.base (b := bv) rfl).1; omega
 obtain ⟨h1, h1e⟩ : ∃ h1, h1 = h.sts bv (i * 3 + 1) [.int .u64 (.ofNat num)] := ⟨_, rfl⟩
 obtain ⟨h2, h2e⟩ : ∃ h2, h2 = h1.sts bv (i * 3 + 2) [.str s] := ⟨_, rfl⟩
 have wr1 : wrAt h1 bv = true:= by rw [h1e, wrAt_sts]; exact wr
 have c1 : cellAt h1 b 0 = some (.slice bv 0 L1.length cv):= by rw [h1e, cellAt_sts wr, if_neg (by omega)]; exact c0
 have c2 : cellAt h2 b 0 = some (.slice bv 0 L1.length cv):= by rw [h2e, cellAt_sts wr1, if_neg (by omega)]; exact c1
 have p12 : cellAt h1 bv (i * 3 + 2) = some (.str y0.2):= by rw [h1e, cellAt_sts wr, if_neg (by simp)]; exact p2
 have cs2 : ∀ j, cellAt h2 bv j = if j = i * 3 + 2 then some (.str s) else if j = i * 3 + 1 then some (.int .u64 (.ofNat num)) else cellAt h bv j := fun j => by
  rw [h2e, cellAt_sts wr1]
  by_cases q : j = i * 3 + 2
  ·rw [if_pos ⟨rfl, by omega, by simp; omega⟩, if_pos q, q, Nat.sub_self]; rfl
  ·rw [if_neg (by simp; omega), if_neg q, h1e, cellAt_sts wr]
   by_cases q : j = i * 3 + 1
   ·rw [if_pos ⟨rfl, by omega, by simp; omega⟩, if_pos q, q, Nat.sub_self]; rfl
   ·rw [if_neg (by simp; omega), if_neg q]
 have r0 : cellAt h2 bv (i * 3) = some (.int .u64 (.ofNat c)):= by rw [cs2, if_neg (by omega), if_neg (by omega)]; exact p0
 have r1 : cellAt h2 bv (i * 3 + 1) = some (.int .u64 (.ofNat num)):= by rw [cs2, if_neg (by omega), if_pos rfl]
 have r2 : cellAt h2 bv (i * 3 + 2) = some (.str s):= by rw [cs2, if_pos rfl]
 have e0 : bytesOf { data := #[] } = [] := rfl
 repeat' (first | ((with_reducible refine st1 ?_); (conv => whnf); (with_reducible refine ⟨?_⟩)) | ((with_reducible refine retW_intro rfl ?_); (conv => arg 2; whnf)) | ((with_reducible first | refine iB ?_ ?_ | refine gWt ?_ ?_ | refine gWf ?_ ?_) <;> intro hb <;> (try simp only [hb])) | (simp only [B, F, reduceLT, reduceLeDiff, reduceEqDiff, reduceAdd, reduceMul, reduceSub, ↓reduceIte, eq_self, t0, t2, t3, t13, t14, c0, hv1, lt1, Nat.zero_add, put_sts, wr, p1, ← h1e, c1, wr1, p12, ← h2e, c2, r0, r1, r2]))
 refine ((rowPairs h2 c num s hc hn (by omega)).call P).mono P ?_
 rintro v3 h3 ⟨o3, g3⟩
 have g3o := g3.one
 have hlen3 := g3.slice.len (P := P) u44a
 repeat' (first | ((with_reducible refine st1 ?_); (conv => whnf); (with_reducible refine ⟨?_⟩)) | ((with_reducible refine retW_intro rfl ?_); (conv => arg 2; whnf)) | ((with_reducible first | refine iB ?_ ?_ | refine gWt ?_ ?_ | refine gWf ?_ ?_) <;> intro hb <;> (try simp only [hb])) | (simp only [B, F, reduceLT, reduceLeDiff, reduceEqDiff, reduceAdd, reduceMul, reduceSub, ↓reduceIte, eq_self, t14, g3o, hlen3]))
 have x2 : h2.nx = h.nx:= by rw [h2e, nx_sts, h1e, nx_sts]
 have o02 : ∀ d, d ≠ bv → h2.t.get d = h.t.get d := fun d q => by rw [h2e, get_sts _ _ _ _ q, h1e, get_sts _ _ _ _ q]
 have g02 : h2.g = h.g:= by rw [h2e, g_sts, h1e, g_sts]
 have x3 := o3.1.1
 have hnp : (prs (c, num, s)).length ≤ 60 := by
  have hM : M64 = 18446744073709551616 := rfl
  have : (textP num s).length ≤ 5020:= by unfold textP; have := encN_len hn; have := encN_len (n := s.length) (by omega); simp; omega
  unfold prs cntP; simp; omega
 have gro3 : Grows 2 ob h3 ov old.length (kpsC old) := gro.of_get (by omega) fun d e => by
  have hd := (gro.base e).2
  rw [o3.1.2 d (by omega) (by simp), o02 d (fun q => (hno d e).2 (by rw [q]; rfl))]
 have hleno := gro3.slice.len (P := P) u44a
 have goo := gro3.one
 refine st_loop (fun m ds tm h' => ∃ i v, DkI h3 h2.nx ov old (prs (c, num, s)) m ds tm h' i v) (old.length - (prs (c, num, s)).length) rfl ⟨_, v3, rfl, rfl, ⟨Nat.le_refl _, Nat.le_max_left _ _⟩, by simp only [B, F, reduceLT, reduceLeDiff, reduceEqDiff, reduceAdd, reduceMul, reduceSub, ↓reduceIte, eq_self, t14], by simp only [B, F, reduceLT, reduceLeDiff, reduceEqDiff, reduceAdd, reduceMul, reduceSub, ↓reduceIte, eq_self], by simp only [B, F, reduceLT, reduceLeDiff, reduceEqDiff, reduceAdd, reduceMul, reduceSub, ↓reduceIte, eq_self], by unfold outX; rw [Nat.sub_self, List.take_zero, List.map_nil, List.append_nil]; exact g3, Nat.le_refl _, fun _ _ => rfl, rfl⟩ (fun m ds tm h4 hI => ?_)
 clear t0 t2 t3 t13 t14 g3o
 obtain ⟨j, v4, rfl, rfl, ⟨jj1, jj2⟩, t14, t16, t17, g4, nx4, ol4, gg4⟩ := hI
 have g4o := g4.one
 by_cases hj : j < old.length
 ·have d1 : decide (j < old.length) = true := decide_eq_true hj
  have lt2 : (j < old.length) = True:= by simp [hj]
  obtain ⟨x, hxo⟩ : ∃ x, old[j]? = some x := ⟨_, List.getElem?_eq_getElem hj⟩
  have gro4 : Grows 2 ob h4 ov old.length (kpsC old) := gro3.of_get (by omega) fun d e => ol4 d (by have := (gro.base e).2; omega)
  obtain ⟨bo, oo, co, rfl, hbo, -⟩ := gro4.slice.place (by omega)
  obtain rfl : oo = 0:= by cases gro4; rfl
  obtain ⟨y0, -⟩ := kps_at gro4 hxo
  have w1 : wrapF .i64 (Int.ofNat j + Int.ofNat 1) = Int.ofNat (j + 1) := i64_add (by omega)
  obtain ⟨h5, h5e⟩ : ∃ h5, h5 = h4.newCells 66 [.str x.1, .str []] := ⟨_, rfl⟩
  have o5 : Og h4 h5 []:= by rw [h5e]; exact (Og.refl _ _).new _ _
  have x5 : h5.nx = h4.nx + 1:= by rw [h5e]; rfl
  have hrow : h5.row h4.nx 0 2 = some [.str x.1, .str []] := row_ok (o := 0) (cs := [.str x.1, .str []]) (fun j hj => by rw [h5e, cellAt_new, Nat.zero_add, if_pos rfl]) (by simp)
  have g5 : Grows 2 h2.nx h5 v4 _ _ := g4.of_get o5.1.1 (fun c e => o5.1.2 c (g4.base e).2 (by simp))
  repeat' (first | ((with_reducible refine st1 ?_); (conv => whnf); (with_reducible refine ⟨?_⟩)) | ((with_reducible refine retW_intro rfl ?_); (conv => arg 2; whnf)) | ((with_reducible first | refine iB ?_ ?_ | refine gWt ?_ ?_ | refine gWf ?_ ?_) <;> intro hb <;> (try simp only [hb])) | (simp only [B, F, reduceLT, reduceLeDiff, reduceEqDiff, reduceAdd, reduceMul, reduceSub, ↓reduceIte, eq_self, t14, t16, t17, g4o, hleno, d1, lt2, Nat.zero_add, y0, e0, ← h5e, hrow]))
  refine exW_growsG (m := 1) (new := [.str x.1, .str []]) g5 (by omega) (by omega) (by omega) rfl (by omega) (fun v7 h7 g7 x7 old7 blk7 gg7 => ?_)
  have g7o := g7.one
  have hbv : ∀ c, c < h2.nx → blkOf v4 ≠ some c := fun c hc e => by have := (g4.base e).1; omega
  repeat' (first | ((with_reducible refine st1 ?_); (conv => whnf); (with_reducible refine ⟨?_⟩)) | ((with_reducible refine retW_intro rfl ?_); (conv => arg 2; whnf)) | ((with_reducible first | refine iB ?_ ?_ | refine gWt ?_ ?_ | refine gWf ?_ ?_) <;> intro hb <;> (try simp only [hb])) | (simp only [B, F, reduceLT, reduceLeDiff, reduceEqDiff, reduceAdd, reduceMul, reduceSub, ↓reduceIte, eq_self, t14, t16, t17, g7o, w1]))
  refine ⟨old.length - (j + 1), by omega, j + 1, v7, rfl, rfl, ⟨by omega, by omega⟩, by simp only [B, F, reduceLT, reduceLeDiff, reduceEqDiff, reduceAdd, reduceMul, reduceSub, ↓reduceIte, eq_self, t14], by simp only [B, F, reduceLT, reduceLeDiff, reduceEqDiff, reduceAdd, reduceMul, reduceSub, ↓reduceIte, eq_self], by simp only [B, F, reduceLT, reduceLeDiff, reduceEqDiff, reduceAdd, reduceMul, reduceSub, ↓reduceIte, eq_self], by rw [outX_s jj1 hxo, kps_app]; exact g7, by omega, fun c hc => ?_, ?_⟩
  ·rw [old7 c (by omega) (hbv c hc), o5.1.2 c (by omega) (by simp), ol4 c hc]
  ·rw [gg7, o5.2, gg4]
 ·have d1 : decide (j < old.length) = false := decide_eq_false hj
  repeat' (first | ((with_reducible refine st1 ?_); (conv => whnf); (with_reducible refine ⟨?_⟩)) | ((with_reducible refine retW_intro rfl ?_); (conv => arg 2; whnf)) | ((with_reducible first | refine iB ?_ ?_ | refine gWt ?_ ?_ | refine gWf ?_ ?_) <;> intro hb <;> (try simp only [hb])) | (simp only [B, F, reduceLT, reduceLeDiff, reduceEqDiff, reduceAdd, reduceMul, reduceSub, ↓reduceIte, eq_self, t14, t16, t17, g4o, hleno, d1]))
  have hog := og.nx
  have lk := k.lt
  refine ⟨v4, rfl, ⟨by omega, fun d hd q1 q2 => ?_, ?_⟩, ⟨.slice bv 0 L1.length cv, ⟨by omega, ?_, ?_, ?_⟩⟩, ?_⟩
  ·have hdv : d ≠ bv := fun q => by
    subst q
    rcases hv with e | e
    ·exact q2 (by rw [← e]; rfl)
    ·have := e d rfl; omega
   rw [ol4 d (by omega), o3.1.2 d (by omega) (by simp), o02 d hdv, og.old d hd q1 q2]
  ·rw [gg4, o3.2, g02, og.g]
  ·rw [cellAt_of_get (ol4 b (by omega))]; exact kc c2 o3 (by omega) (by simp)
  ·rw [wrAt_of_get (ol4 b (by omega)), wrAt_of_get (o3.1.2 b (by omega) (by simp)), wrAt_of_get (o02 b (by omega))]; exact k.wr
  ·have s1 := (gr.sts (i * 3 + 1) (.int .u64 (.ofNat num))).resolve_right (by rw [rws_len]; omega)
   rw [← h1e] at s1
   have s2 := (s1.sts (i * 3 + 2) (.str s)).resolve_right (by rw [List.length_set, rws_len]; omega)
   rw [← h2e, ← rws_set c num s L1 i y0 hx] at s2
   rw [List.length_set]
   refine s2.of_get (by omega) fun d e => ?_
   cases e
   rw [ol4 bv (by omega), o3.1.2 bv (by omega) (by simp)]
  ·rw [← outX_end (old := old) (new := prs (c, num, s)) (i := j) (by omega), outX_len jj1 jj2]
   exact g4.wk (by omega)
end
end Go.Proofs.YtllmfnedkhiomaaDoor.S

namespace Go.Proofs.YtllmfnedkhiomaaDoor.S
open Go Go.AX
noncomputable section
set_option maxRecDepth 100000
def insP (c : Nat) (L : List Rw) : Nat := (L.takeWhile fun x => decide (x.1 < c)).length
theorem insP_le (c : Nat) (L : List Rw) : insP c L ≤ L.length := (List.takeWhile_sublist _).length_le
theorem insP_lt {c : Nat} : ∀ {L : List Rw} {i : Nat} {x : Rw}, i < insP c L → L[i]? = some x → x.1 < c
 | [], i, x, h, _ => by simp [insP] at h
 | a :: L, i, x, h, hx => by
  unfold insP at h
  rw [List.takeWhile_cons] at h
  split at h
  ·rename_i q
   cases i with
   | zero => simp at hx; subst hx; exact of_decide_eq_true q
   | succ i => exact insP_lt (L := L) (i := i) (by unfold insP; simpa using h) (by simpa using hx)
  ·simp at h
theorem insP_end {c : Nat} : ∀ {L : List Rw} {x : Rw}, L[insP c L]? = some x → ¬ x.1 < c
 | [], x, hx => by simp at hx
 | a :: L, x, hx => by
  unfold insP at hx
  rw [List.takeWhile_cons] at hx
  split at hx
  ·rename_i q
   exact insP_end (L := L) (by unfold insP; simpa using hx)
  ·rename_i q
   simp at hx; subst hx
   simpa using q
def rowsN (c : Nat) (y : Lst) (L : List Rw) : List Rw := if fIx c L < L.length then L.set (fIx c L) (c, y) else L.take (insP c L) ++ (c, y) :: L.drop (insP c L)
def oldR (c : Nat) (L : List Rw) : List Kp := match getB c L with | none => [] | some y => prs (c, y)
theorem rDoneBad (h : H) (b c num : Nat) (s : List Nat) (L : List Rw) (v : AV) (k : RfAt h b L v) (hz : L.length ≤ 1000) (hn : num < M64) (x : List Nat) (a : Bool) (e : Nat) (hs : seenE L c num = (x, a, e)) (he : 0 < e) :
  PushC P (.enter 11 [.ptr b 0, .int .u64 (.ofNat c), .int .u64 (.ofNat num), .str s] h) (SaysG h (.tuple [.nilslice, .int .i64 (.ofNat e)])) := by
 have d1 : decide (e = 0) = false := decide_eq_false (by omega)
 refine pushC_of_codeW (fn := Tryd.f11) (c := bodyC Tryd.f11) Tryd.func11 rfl ?_
 show codeW P 11 133 none _ _ _ _ _
 refine codeW_root ?_
 repeat' (first | ((with_reducible refine st1 ?_); (conv => whnf); (with_reducible refine ⟨?_⟩)) | ((with_reducible refine retW_intro rfl ?_); (conv => arg 2; whnf)) | ((with_reducible first | refine iB ?_ ?_ | refine gWt ?_ ?_ | refine gWf ?_ ?_) <;> intro hb <;> (try simp only [hb])) | (simp only [B, F, reduceLT, reduceLeDiff, reduceEqDiff, reduceAdd, reduceMul, reduceSub, ↓reduceIte, eq_self]))
 refine ((rSeenC h b c num L v k hz hn).call P).mono P ?_
 rintro _ h1 ⟨rfl, o1⟩
 rw [hs]
 unfold seenV
 repeat' (first | ((with_reducible refine st1 ?_); (conv => whnf); (with_reducible refine ⟨?_⟩)) | ((with_reducible refine retW_intro rfl ?_); (conv => arg 2; whnf)) | ((with_reducible first | refine iB ?_ ?_ | refine gWt ?_ ?_ | refine gWf ?_ ?_) <;> intro hb <;> (try simp only [hb])) | (simp only [B, F, reduceLT, reduceLeDiff, reduceEqDiff, reduceAdd, reduceMul, reduceSub, ↓reduceIte, eq_self, d1, Bool.not_false]))
 exact ⟨rfl, o1⟩
theorem rDoneAgain (h : H) (b c num : Nat) (s : List Nat) (L : List Rw) (v : AV) (k : RfAt h b L v) (hz : L.length ≤ 1000) (hn : num < M64) (x : List Nat) (hs : seenE L c num = (x, true, 0)) :
  PushC P (.enter 11 [.ptr b 0, .int .u64 (.ofNat c), .int .u64 (.ofNat num), .str s] h) (SaysG h (.tuple [.nilslice, .int .i64 (.ofNat 17)])) := by
 refine pushC_of_codeW (fn := Tryd.f11) (c := bodyC Tryd.f11) Tryd.func11 rfl ?_
 show codeW P 11 133 none _ _ _ _ _
 refine codeW_root ?_
 repeat' (first | ((with_reducible refine st1 ?_); (conv => whnf); (with_reducible refine ⟨?_⟩)) | ((with_reducible refine retW_intro rfl ?_); (conv => arg 2; whnf)) | ((with_reducible first | refine iB ?_ ?_ | refine gWt ?_ ?_ | refine gWf ?_ ?_) <;> intro hb <;> (try simp only [hb])) | (simp only [B, F, reduceLT, reduceLeDiff, reduceEqDiff, reduceAdd, reduceMul, reduceSub, ↓reduceIte, eq_self]))
 refine ((rSeenC h b c num L v k hz hn).call P).mono P ?_
 rintro _ h1 ⟨rfl, o1⟩
 rw [hs]
 unfold seenV
 repeat' (first | ((with_reducible refine st1 ?_); (conv => whnf); (with_reducible refine ⟨?_⟩)) | ((with_reducible refine retW_intro rfl ?_); (conv => arg 2; whnf)) | ((with_reducible first | refine iB ?_ ?_ | refine gWt ?_ ?_ | refine gWf ?_ ?_) <;> intro hb <;> (try simp only [hb])) | (simp only [B, F, reduceLT, reduceLeDiff, reduceEqDiff, reduceAdd, reduceMul, reduceSub, ↓reduceIte, eq_self]))
 exact ⟨rfl, o1⟩
theorem rDoneLong (h : H) (b c num : Nat) (s : List Nat) (L : List Rw) (v : AV) (k : RfAt h b L v) (hz : L.length ≤ 1000) (hn : num < M64) (x : List Nat) (hs : seenE L c num = (x, false, 0)) (hl : 4000 < s.length) :
  PushC P (.enter 11 [.ptr b 0, .int .u64 (.ofNat c), .int .u64 (.ofNat num), .str s] h) (SaysG h (.tuple [.nilslice, .int .i64 (.ofNat 3)])) := by
 have d1 : decide (4000 < s.length) = true := decide_eq_true hl
 refine pushC_of_codeW (fn := Tryd.f11) (c := bodyC Tryd.f11) Tryd.func11 rfl ?_
 show codeW P 11 133 none _ _ _ _ _
 refine codeW_root ?_
 repeat' (first | ((with_reducible refine st1 ?_); (conv => whnf); (with_reducible refine ⟨?_⟩)) | ((with_reducible refine retW_intro rfl ?_); (conv => arg 2; whnf)) | ((with_reducible first | refine iB ?_ ?_ | refine gWt ?_ ?_ | refine gWf ?_ ?_) <;> intro hb <;> (try simp only [hb])) | (simp only [B, F, reduceLT, reduceLeDiff, reduceEqDiff, reduceAdd, reduceMul, reduceSub, ↓reduceIte, eq_self]))
 refine ((rSeenC h b c num L v k hz hn).call P).mono P ?_
 rintro _ h1 ⟨rfl, o1⟩
 rw [hs]
 unfold seenV
 repeat' (first | ((with_reducible refine st1 ?_); (conv => whnf); (with_reducible refine ⟨?_⟩)) | ((with_reducible refine retW_intro rfl ?_); (conv => arg 2; whnf)) | ((with_reducible first | refine iB ?_ ?_ | refine gWt ?_ ?_ | refine gWf ?_ ?_) <;> intro hb <;> (try simp only [hb])) | (simp only [B, F, reduceLT, reduceLeDiff, reduceEqDiff, reduceAdd, reduceMul, reduceSub, ↓reduceIte, eq_self, d1]))
 exact ⟨rfl, o1⟩
theorem rws_app (A B : List Rw) : rwsC (A ++ B) = rwsC A ++ rwsC B:= by unfold rwsC; rw [List.flatMap_append]
theorem rws_td (L : List Rw) : ∀ i, rwsC (L.take i) = (rwsC L).take (i * 3) ∧ rwsC (L.drop i) = (rwsC L).drop (i * 3) := by
 induction L with
 | nil => intro i; simp [rwsC]
 | cons a L ih =>
  intro i
  cases i with
  | zero => simp [rwsC]
  | succ i =>
   have e : (i + 1) * 3 = i * 3 + 1 + 1 + 1:= by omega
   have h := ih i
   rw [e]
   show rwsC (a :: L.take i) = (rwC a ++ rwsC L).take _ ∧ rwsC (L.drop i) = (rwC a ++ rwsC L).drop _
   constructor
   ·show rwC a ++ rwsC (L.take i) = _
    rw [h.1]; rfl
   ·rw [h.2]; rfl
theorem doneIns (h : H) (b c i : Nat) (L : List Rw) (v : AV) (k : RfAt h b L v) (hz : L.length ≤ 900) (hi : i ≤ L.length) (tm : T AV) (t0 : tm.get 0 = some (.ptr b 0)) (t1 : tm.get 1 = some (.int .u64 (.ofNat c))) (t13 : tm.get 13 = some (.int .i64 (.ofNat i))) (K : KQ)
  (hK : ∀ tm2 h2 v2, (∀ j, j < 15 → tm2.get j = tm.get j) → OgV h h2 b v → RfAt h2 b (L.take i ++ (c, 0, []) :: L.drop i) v2 → (∀ d, blkOf v2 = some d → h.nx ≤ d) → K .norm [] tm2 h2) :
  codeW P 11 133 none (codeI (bodyC Tryd.f11) [1, 1, 0, 1, 0, 1, 1, 1, 1, 1, 1, 1]) [] tm h K := by
 have e0 : bytesOf { data := #[] } = [] := rfl
 have klt := k.lt
 have c0 := k.c0
 have hv1 := k.gr.one
 obtain ⟨v2, hsl, v2o, happ⟩ := appHi (t := 39) (e := 64) (by omega) u39a (by kernel_rfl) (by kernel_rfl) i39 k.gr (i := i) hi (by omega)
 repeat' (first | ((with_reducible refine st1 ?_); (conv => whnf); (with_reducible refine ⟨?_⟩)) | ((with_reducible refine retW_intro rfl ?_); (conv => arg 2; whnf)) | ((with_reducible first | refine iB ?_ ?_ | refine gWt ?_ ?_ | refine gWf ?_ ?_) <;> intro hb <;> (try simp only [hb])) | (simp only [B, F, reduceLT, reduceLeDiff, reduceEqDiff, reduceAdd, reduceMul, reduceSub, ↓reduceIte, eq_self, t0, t1, t13, c0, hv1, ex_sl_h, hsl, v2o]))
 with_reducible refine happ h.nx .nilslice 0 [] Grows.none (Nat.le_refl _) (by omega) _ (fun v3 h3 g3 x3 old3 bl3 gg3 => ?_)
 have g3o := g3.one
 have o3 : Og h h3 [] := ⟨⟨x3, fun c hc _ => old3 c hc (by simp [blkOf])⟩, gg3⟩
 rw [Nat.zero_add, List.nil_append, ← (rws_td L i).1] at g3
 obtain ⟨h4, h4e⟩ : ∃ h4, h4 = h3.newCells 64 [.int .u64 (.ofNat c), .int .u64 (.ofNat 0), .str []] := ⟨_, rfl⟩
 have o4 : Og h3 h4 []:= by rw [h4e]; exact (Og.refl _ _).new _ _
 have x4 : h4.nx = h3.nx + 1:= by rw [h4e]; rfl
 have hrow : h4.row h3.nx 0 3 = some [.int .u64 (.ofNat c), .int .u64 (.ofNat 0), .str []] := row_ok (o := 0) (cs := [.int .u64 (.ofNat c), .int .u64 (.ofNat 0), .str []]) (fun j hj => by rw [h4e, cellAt_new, Nat.zero_add, if_pos rfl]) (by simp)
 repeat' (first | ((with_reducible refine st1 ?_); (conv => whnf); (with_reducible refine ⟨?_⟩)) | ((with_reducible refine retW_intro rfl ?_); (conv => arg 2; whnf)) | ((with_reducible first | refine iB ?_ ?_ | refine gWt ?_ ?_ | refine gWf ?_ ?_) <;> intro hb <;> (try simp only [hb])) | (simp only [B, F, reduceLT, reduceLeDiff, reduceEqDiff, reduceAdd, reduceMul, reduceSub, ↓reduceIte, eq_self, t0, t1, t13, g3o, e0, ← h4e, hrow]))
 have g4 : Grows 3 h.nx h4 v3 _ _ := g3.of_get o4.1.1 (fun c e => o4.1.2 c (g3.base e).2 (by simp))
 refine exW_growsG (m := 1) (new := [.int .u64 (.ofNat c), .int .u64 (.ofNat 0), .str []]) g4 (by omega) (by omega) (by omega) rfl (by omega) (fun v5 h5 g5 x5 old5 blk5 gg5 => ?_)
 have g5o := g5.one
 have o45 : Og h h5 [] := ⟨⟨by omega, fun d hd _ => by rw [old5 d (by omega) (fun e => by have := (g4.base e).1; omega), o4.1.2 d (by omega) (by simp), o3.1.2 d hd (by simp)]⟩, by rw [gg5, o4.2, o3.2]⟩
 have k5 := k.keep o45 (by simp)
 have c5 := k5.c0
 have w5 := k5.wr
 have x45 := o45.1.1
 obtain ⟨v2b, hslb, v2ob, happb⟩ := appLo (t := 39) (e := 64) (by omega) u39a (by kernel_rfl) (by kernel_rfl) i39 k5.gr (i := i) hi (by omega)
 repeat' (first | ((with_reducible refine st1 ?_); (conv => whnf); (with_reducible refine ⟨?_⟩)) | ((with_reducible refine retW_intro rfl ?_); (conv => arg 2; whnf)) | ((with_reducible first | refine iB ?_ ?_ | refine gWt ?_ ?_ | refine gWf ?_ ?_) <;> intro hb <;> (try simp only [hb])) | (simp only [B, F, reduceLT, reduceLeDiff, reduceEqDiff, reduceAdd, reduceMul, reduceSub, ↓reduceIte, eq_self, t0, t1, t13, g5o, c5, hv1, ex_sl_l, hslb, v2ob]))
 with_reducible refine happb h5 (fun _ _ => rfl) (Nat.le_refl _) h.nx v5 (i + 1) _ g5 x45 (by omega) _ (fun v6 h6 g6 x6 old6 bl6 gg6 => ?_)
 have g6o := g6.one
 have g6c := g6.cells
 have hb5 : ∀ d, blkOf v5 = some d → h.nx ≤ d := fun d e => (g5.base e).1
 have c6 : cellAt h6 b 0 = some v:= by rw [cellAt_of_get (old6 b (by omega) (fun e => by have := hb5 _ e; omega))]; exact c5
 have w6 : wrAt h6 b = true:= by rw [wrAt_of_get (old6 b (by omega) (fun e => by have := hb5 _ e; omega))]; exact w5
 repeat' (first | ((with_reducible refine st1 ?_); (conv => whnf); (with_reducible refine ⟨?_⟩)) | ((with_reducible refine retW_intro rfl ?_); (conv => arg 2; whnf)) | ((with_reducible first | refine iB ?_ ?_ | refine gWt ?_ ?_ | refine gWf ?_ ?_) <;> intro hb <;> (try simp only [hb])) | (simp only [B, F, reduceLT, reduceLeDiff, reduceEqDiff, reduceAdd, reduceMul, reduceSub, ↓reduceIte, eq_self, t0, t1, t13, g6o, g6c, c6, w6, put_sts]))
 have o67 : ∀ d, d ≠ b → (h6.sts b 0 [v6]).t.get d = h6.t.get d := fun d q => get_sts _ _ _ _ q
 have hb6 : ∀ d, blkOf v6 = some d → h.nx ≤ d := fun d e => (g6.base e).1
 refine hK _ _ v6 ?_ ⟨by rw [nx_sts]; omega, fun d hd q1 q2 => ?_, by rw [g_sts, gg6, o45.2]⟩ ⟨by rw [nx_sts]; omega, ?_, by rw [wrAt_sts]; exact w6, ?_⟩ hb6
 ·intro j hj
  match j, hj with
  | 0, _ => simp only [B, F, reduceLT, reduceLeDiff, reduceEqDiff, reduceAdd, reduceMul, reduceSub, ↓reduceIte, eq_self]
  | 1, _ => simp only [B, F, reduceLT, reduceLeDiff, reduceEqDiff, reduceAdd, reduceMul, reduceSub, ↓reduceIte, eq_self]
  | 2, _ => simp only [B, F, reduceLT, reduceLeDiff, reduceEqDiff, reduceAdd, reduceMul, reduceSub, ↓reduceIte, eq_self]
  | 3, _ => simp only [B, F, reduceLT, reduceLeDiff, reduceEqDiff, reduceAdd, reduceMul, reduceSub, ↓reduceIte, eq_self]
  | 4, _ => simp only [B, F, reduceLT, reduceLeDiff, reduceEqDiff, reduceAdd, reduceMul, reduceSub, ↓reduceIte, eq_self]
  | 5, _ => simp only [B, F, reduceLT, reduceLeDiff, reduceEqDiff, reduceAdd, reduceMul, reduceSub, ↓reduceIte, eq_self]
  | 6, _ => simp only [B, F, reduceLT, reduceLeDiff, reduceEqDiff, reduceAdd, reduceMul, reduceSub, ↓reduceIte, eq_self]
  | 7, _ => simp only [B, F, reduceLT, reduceLeDiff, reduceEqDiff, reduceAdd, reduceMul, reduceSub, ↓reduceIte, eq_self]
  | 8, _ => simp only [B, F, reduceLT, reduceLeDiff, reduceEqDiff, reduceAdd, reduceMul, reduceSub, ↓reduceIte, eq_self]
  | 9, _ => simp only [B, F, reduceLT, reduceLeDiff, reduceEqDiff, reduceAdd, reduceMul, reduceSub, ↓reduceIte, eq_self]
  | 10, _ => simp only [B, F, reduceLT, reduceLeDiff, reduceEqDiff, reduceAdd, reduceMul, reduceSub, ↓reduceIte, eq_self]
  | 11, _ => simp only [B, F, reduceLT, reduceLeDiff, reduceEqDiff, reduceAdd, reduceMul, reduceSub, ↓reduceIte, eq_self]
  | 12, _ => simp only [B, F, reduceLT, reduceLeDiff, reduceEqDiff, reduceAdd, reduceMul, reduceSub, ↓reduceIte, eq_self]
  | 13, _ => simp only [B, F, reduceLT, reduceLeDiff, reduceEqDiff, reduceAdd, reduceMul, reduceSub, ↓reduceIte, eq_self]
  | 14, _ => simp only [B, F, reduceLT, reduceLeDiff, reduceEqDiff, reduceAdd, reduceMul, reduceSub, ↓reduceIte, eq_self]
 ·rw [o67 d q1, old6 d (by omega) (fun e => by have := hb5 _ e; omega), o45.1.2 d hd (by simp)]
 ·rw [cellAt_sts w6, if_pos ⟨rfl, Nat.le_refl _, by simp⟩]; rfl
 ·have e1 : (L.take i ++ (c, 0, []) :: L.drop i).length = i + 1 + (L.length - i):= by simp; omega
  have e2 : rwsC (L.take i ++ (c, 0, []) :: L.drop i) = rwsC (L.take i) ++ [.int .u64 (.ofNat c), .int .u64 (.ofNat 0), .str []] ++ (rwsC L).drop (i * 3) := by
   rw [rws_app, List.append_assoc, ← (rws_td L i).2]; rfl
  rw [e1, e2]
  exact (g6.of_get (by rw [nx_sts]; exact Nat.le_refl _) (fun d e => o67 d (fun q => by have := hb6 d e; omega))).wk (by omega)
structure Stop11i (p : Prop) : Prop where
 go : p
theorem stop11i {ds : List Nat} {tm : T AV} {h : H} {Q : KQ} (hw : Stop11i (codeW P 11 133 none (codeI (bodyC Tryd.f11) [1, 1, 0, 1, 0, 1, 1, 1, 1, 1, 1, 1]) ds tm h Q)) : codeW P 11 133 none (codeI (bodyC Tryd.f11) [1, 1, 0, 1, 0, 1, 1, 1, 1, 1, 1, 1]) ds tm h Q := hw.go
structure DpI (h0 : H) (b c num : Nat) (s : List Nat) (L : List Rw) (m : Nat) (ds : List Nat) (tm : T AV) (h : H) (i : Nat) : Prop where
 ds : ds = []
 nn : m = L.length - i
 ii : i ≤ insP c L
 t0 : tm.get 0 = some (.ptr b 0)
 t1 : tm.get 1 = some (.int .u64 (.ofNat c))
 t2 : tm.get 2 = some (.int .u64 (.ofNat num))
 t3 : tm.get 3 = some (.str s)
 t13 : tm.get 13 = some (.int .i64 (.ofNat i))
 t14 : tm.get 14 = some .nilslice
 oo : Og h0 h []
theorem rDoneOk (h0 : H) (b c num : Nat) (s : List Nat) (L : List Rw) (v : AV) (k : RfAt h0 b L v) (hz : L.length ≤ 900) (hn : num < M64) (hl : s.length ≤ 4000) (x : List Nat) (hs : seenE L c num = (x, false, 0)) (hL : ∀ y, y ∈ L → y.2.1 < M64 ∧ y.2.2.length ≤ 4000) :
  PushC P (.enter 11 [.ptr b 0, .int .u64 (.ofNat c), .int .u64 (.ofNat num), .str s] h0) fun u h' => ∃ w, u = .tuple [w, .int .i64 (.ofNat 0)] ∧ DoneR h0 h' b v (rowsN c (num, s) L) (outR (oldR c L) (prs (c, num, s))) w := by
 have d1 : decide (4000 < s.length) = false := decide_eq_false (by omega)
 have hc : c < 281474976710656 := by
  rcases Nat.lt_or_ge c 281474976710656 with q | q
  ·exact q
  ·unfold seenE at hs
   rw [if_pos (.inr (.inl q))] at hs
   cases hs
 have e0 : bytesOf { data := #[] } = [] := rfl
 refine pushC_of_codeW (fn := Tryd.f11) (c := bodyC Tryd.f11) Tryd.func11 rfl ?_
 show codeW P 11 133 none _ _ _ _ _
 refine codeW_root ?_
 repeat' (first | ((with_reducible refine st1 ?_); (conv => whnf); (with_reducible refine ⟨?_⟩)) | ((with_reducible refine retW_intro rfl ?_); (conv => arg 2; whnf)) | ((with_reducible first | refine iB ?_ ?_ | refine gWt ?_ ?_ | refine gWf ?_ ?_) <;> intro hb <;> (try simp only [hb])) | (simp only [B, F, reduceLT, reduceLeDiff, reduceEqDiff, reduceAdd, reduceMul, reduceSub, ↓reduceIte, eq_self]))
 refine ((rSeenC h0 b c num L v k (by omega) hn).call P).mono P ?_
 rintro _ h1 ⟨rfl, o1⟩
 rw [hs]
 unfold seenV
 have k1 := k.keep o1 (by simp)
 repeat' (first | ((with_reducible refine st1 ?_); (conv => whnf); (with_reducible refine ⟨?_⟩)) | ((with_reducible refine retW_intro rfl ?_); (conv => arg 2; whnf)) | ((with_reducible first | refine iB ?_ ?_ | refine gWt ?_ ?_ | refine gWf ?_ ?_) <;> intro hb <;> (try simp only [hb])) | (simp only [B, F, reduceLT, reduceLeDiff, reduceEqDiff, reduceAdd, reduceMul, reduceSub, ↓reduceIte, eq_self, d1]))
 refine ((findC h1 b c L v k1 (by omega)).call P).mono P ?_
 rintro _ h2 ⟨rfl, o2⟩
 have o12 := o1.t o2
 have k2 := k.keep o12 (by simp)
 have hlen := k.gr.slice.len (P := P) u39a
 have hv1 := k.gr.one
 have c0 := k2.c0
 have klt := k.lt
 unfold rowsN oldR
 by_cases hf : fIx c L < L.length
 ·obtain ⟨⟨n, r⟩, hx, hg⟩ := fIx_at hf
  rw [if_pos hf, hg]
  simp only
  have hv : fV c L = .int .i64 (.ofNat (fIx c L)):= by unfold fV; rw [if_pos hf]
  rw [hv]
  have d4 : decide (fIx c L < 0) = false := decide_eq_false (by omega)
  have lt1 : (fIx c L < L.length) = True:= by simp [hf]
  have gr := k2.gr
  obtain ⟨bv, ov, cv, rfl, hbv, -⟩ := gr.slice.place (by omega)
  obtain rfl : ov = 0:= by cases gr; rfl
  obtain ⟨p0, p1, p2⟩ := rws_at gr hx
  have hyb := hL _ (List.mem_of_getElem? hx)
  simp only at p0 p1 p2 hyb
  repeat' (first | ((with_reducible refine st1 ?_); (conv => whnf); (with_reducible refine ⟨?_⟩)) | ((with_reducible refine retW_intro rfl ?_); (conv => arg 2; whnf)) | ((with_reducible first | refine iB ?_ ?_ | refine gWt ?_ ?_ | refine gWf ?_ ?_) <;> intro hb <;> (try simp only [hb])) | (simp only [B, F, reduceLT, reduceLeDiff, reduceEqDiff, reduceAdd, reduceMul, reduceSub, ↓reduceIte, eq_self, c0, hv1, hlen, lt1, Nat.zero_add, p0, p1, p2, d4]))
  refine ((rowPairs h2 c n r hc hyb.1 (by omega)).call P).mono P ?_
  rintro vo h3 ⟨o3, g3⟩
  have g3o := g3.one
  have hnp : (prs (c, n, r)).length ≤ 100 := by
   have hM : M64 = 18446744073709551616 := rfl
   have : (textP n r).length ≤ 5020:= by unfold textP; have := encN_len hyb.1; have := encN_len (n := r.length) (by omega); simp; omega
   unfold prs cntP; simp; omega
  repeat' (first | (with_reducible refine stop11 ?_) | ((with_reducible refine st1 ?_); (conv => whnf); (with_reducible refine ⟨?_⟩)) | ((with_reducible refine retW_intro rfl ?_); (conv => arg 2; whnf)) | ((with_reducible first | refine iB ?_ ?_ | refine gWt ?_ ?_ | refine gWf ?_ ?_) <;> intro hb <;> (try simp only [hb])) | (simp only [B, F, reduceLT, reduceLeDiff, reduceEqDiff, reduceAdd, reduceMul, reduceSub, ↓reduceIte, eq_self, g3o]))
  refine ⟨?_⟩
  have o13 := o12.t o3
  have kb2 := k2.lt
  have gb := (k2.gr.base (b := bv) rfl)
  exact doneRT h0 h3 b c num (fIx c L) s L _ _ vo h2.nx (n, r) (prs (c, n, r)) (k.keep o13 (by simp)) hx (by omega) hc hn hl ⟨o13.1.1, fun d hd _ _ => o13.1.2 d hd (by simp), o13.2⟩ (.inl rfl) g3 (fun d e => by have := (g3.base e).1; exact ⟨by omega, fun q => by cases q; omega⟩) hnp _ (by simp only [B, F, reduceLT, reduceLeDiff, reduceEqDiff, reduceAdd, reduceMul, reduceSub, ↓reduceIte, eq_self]) (by simp only [B, F, reduceLT, reduceLeDiff, reduceEqDiff, reduceAdd, reduceMul, reduceSub, ↓reduceIte, eq_self]) (by simp only [B, F, reduceLT, reduceLeDiff, reduceEqDiff, reduceAdd, reduceMul, reduceSub, ↓reduceIte, eq_self]) (by simp only [B, F, reduceLT, reduceLeDiff, reduceEqDiff, reduceAdd, reduceMul, reduceSub, ↓reduceIte, eq_self]) (by simp only [B, F, reduceLT, reduceLeDiff, reduceEqDiff, reduceAdd, reduceMul, reduceSub, ↓reduceIte, eq_self])
 ·have hg := fIx_no hf
  rw [if_neg hf, hg]
  simp only
  have hv : fV c L = .int .i64 (-1):= by unfold fV; rw [if_neg hf]
  rw [hv]
  have gd2 : decide ((-1 : Int) < Int.ofNat 0) = true:= by decide
  have hip := insP_le c L
  repeat' (first | ((with_reducible refine st1 ?_); (conv => whnf); (with_reducible refine ⟨?_⟩)) | ((with_reducible refine retW_intro rfl ?_); (conv => arg 2; whnf)) | ((with_reducible first | refine iB ?_ ?_ | refine gWt ?_ ?_ | refine gWf ?_ ?_) <;> intro hb <;> (try simp only [hb])) | (simp only [B, F, reduceLT, reduceLeDiff, reduceEqDiff, reduceAdd, reduceMul, reduceSub, ↓reduceIte, eq_self, c0, hv1, hlen, gd2]))
  refine st_loop (fun m ds tm h => ∃ i, DpI h2 b c num s L m ds tm h i) L.length rfl ⟨0, rfl, rfl, Nat.zero_le _, by simp only [B, F, reduceLT, reduceLeDiff, reduceEqDiff, reduceAdd, reduceMul, reduceSub, ↓reduceIte, eq_self], by simp only [B, F, reduceLT, reduceLeDiff, reduceEqDiff, reduceAdd, reduceMul, reduceSub, ↓reduceIte, eq_self], by simp only [B, F, reduceLT, reduceLeDiff, reduceEqDiff, reduceAdd, reduceMul, reduceSub, ↓reduceIte, eq_self], by simp only [B, F, reduceLT, reduceLeDiff, reduceEqDiff, reduceAdd, reduceMul, reduceSub, ↓reduceIte, eq_self], by simp only [B, F, reduceLT, reduceLeDiff, reduceEqDiff, reduceAdd, reduceMul, reduceSub, ↓reduceIte, eq_self], by simp only [B, F, reduceLT, reduceLeDiff, reduceEqDiff, reduceAdd, reduceMul, reduceSub, ↓reduceIte, eq_self], Og.refl _ _⟩ (fun m ds tm h hI => ?_)
  obtain ⟨i, rfl, rfl, ii, t0, t1, t2, t3, t13, t14, oo⟩ := hI
  have o02 := o12.t oo
  have kh := k.keep o02 (by simp)
  have c0 := kh.c0
  have gr := kh.gr
  by_cases hi : i < insP c L
  ·have hil : i < L.length:= by omega
   have d2 : decide (i < L.length) = true := decide_eq_true hil
   have lt1 : (i < L.length) = True:= by simp [hil]
   obtain ⟨y, hy⟩ : ∃ y, L[i]? = some y := ⟨_, List.getElem?_eq_getElem hil⟩
   have hyc := insP_lt hi hy
   have d3 : decide (y.1 < c) = true := decide_eq_true hyc
   obtain ⟨bv, ov, cv, rfl, hbv, -⟩ := gr.slice.place (by omega)
   obtain rfl : ov = 0:= by cases gr; rfl
   obtain ⟨p0, p1, p2⟩ := rws_at gr hy
   have w1 : wrapF .i64 (Int.ofNat i + Int.ofNat 1) = Int.ofNat (i + 1) := i64_add (by omega)
   repeat' (first | ((with_reducible refine st1 ?_); (conv => whnf); (with_reducible refine ⟨?_⟩)) | ((with_reducible refine retW_intro rfl ?_); (conv => arg 2; whnf)) | ((with_reducible first | refine iB ?_ ?_ | refine gWt ?_ ?_ | refine gWf ?_ ?_) <;> intro hb <;> (try simp only [hb])) | (simp only [B, F, reduceLT, reduceLeDiff, reduceEqDiff, reduceAdd, reduceMul, reduceSub, ↓reduceIte, eq_self, t0, t1, t13, c0, hv1, hlen, d2, lt1, Nat.zero_add, p0, d3, w1]))
   exact ⟨L.length - (i + 1), by omega, i + 1, rfl, rfl, by omega, by simp only [B, F, reduceLT, reduceLeDiff, reduceEqDiff, reduceAdd, reduceMul, reduceSub, ↓reduceIte, eq_self, t0], by simp only [B, F, reduceLT, reduceLeDiff, reduceEqDiff, reduceAdd, reduceMul, reduceSub, ↓reduceIte, eq_self, t1], by simp only [B, F, reduceLT, reduceLeDiff, reduceEqDiff, reduceAdd, reduceMul, reduceSub, ↓reduceIte, eq_self, t2], by simp only [B, F, reduceLT, reduceLeDiff, reduceEqDiff, reduceAdd, reduceMul, reduceSub, ↓reduceIte, eq_self, t3], by simp only [B, F, reduceLT, reduceLeDiff, reduceEqDiff, reduceAdd, reduceMul, reduceSub, ↓reduceIte, eq_self], by simp only [B, F, reduceLT, reduceLeDiff, reduceEqDiff, reduceAdd, reduceMul, reduceSub, ↓reduceIte, eq_self, t14], oo⟩
  ·obtain rfl : i = insP c L:= by omega
   have fin : ∀ (tm2 : T AV) (hz2 : H) (v2 : AV), (∀ j, j < 15 → tm2.get j = tm.get j) → OgV h hz2 b v → RfAt hz2 b (L.take (insP c L) ++ (c, 0, []) :: L.drop (insP c L)) v2 → (∀ d, blkOf v2 = some d → h.nx ≤ d) →
     codeW P 11 133 none (codeI (bodyC Tryd.f11) [1, 1, 1, 1, 1, 1, 1, 1]) [] tm2 hz2 (retK P Tryd.f11 fun u h' => ∃ w, u = .tuple [w, .int .i64 (.ofNat 0)] ∧ DoneR h0 h' b v (L.take (insP c L) ++ (c, num, s) :: L.drop (insP c L)) (outR [] (prs (c, num, s))) w) := by
    intro tm2 hz2 v2 hk og2 rf2 hb2
    have hlt : (L.take (insP c L)).length = insP c L:= by rw [List.length_take]; omega
    have := doneRT h0 hz2 b c num (insP c L) s (L.take (insP c L) ++ (c, 0, []) :: L.drop (insP c L)) v v2 .nilslice 0 (0, []) [] rf2 (by rw [List.getElem?_append_right (by omega), hlt, Nat.sub_self]; rfl) (by simp; omega) hc hn hl (OgV.t o02 og2) (.inr fun d e => by have := hb2 d e; have := o02.1.1; omega) Grows.none (fun d e => by cases e) (by simp) tm2 (by rw [hk 0 (by omega)]; exact t0) (by rw [hk 2 (by omega)]; exact t2) (by rw [hk 3 (by omega)]; exact t3) (by rw [hk 13 (by omega)]; exact t13) (by rw [hk 14 (by omega)]; exact t14)
    have e : (L.take (insP c L) ++ (c, 0, []) :: L.drop (insP c L)).set (insP c L) (c, num, s) = L.take (insP c L) ++ (c, num, s) :: L.drop (insP c L) := by
     rw [List.set_append, if_neg (by omega), hlt, Nat.sub_self]; rfl
    rw [e] at this
    exact this
   by_cases hil : insP c L < L.length
   ·have d2 : decide (insP c L < L.length) = true := decide_eq_true hil
    have lt1 : (insP c L < L.length) = True:= by simp [hil]
    obtain ⟨y, hy⟩ : ∃ y, L[insP c L]? = some y := ⟨_, List.getElem?_eq_getElem hil⟩
    have d3 : decide (y.1 < c) = false := decide_eq_false (insP_end hy)
    obtain ⟨bv, ov, cv, rfl, hbv, -⟩ := gr.slice.place (by omega)
    obtain rfl : ov = 0:= by cases gr; rfl
    obtain ⟨p0, p1, p2⟩ := rws_at gr hy
    repeat' (first | (with_reducible refine stop11i ?_) | ((with_reducible refine st1 ?_); (conv => whnf); (with_reducible refine ⟨?_⟩)) | ((with_reducible refine retW_intro rfl ?_); (conv => arg 2; whnf)) | ((with_reducible first | refine iB ?_ ?_ | refine gWt ?_ ?_ | refine gWf ?_ ?_) <;> intro hb <;> (try simp only [hb])) | (simp only [B, F, reduceLT, reduceLeDiff, reduceEqDiff, reduceAdd, reduceMul, reduceSub, ↓reduceIte, eq_self, t0, t1, t13, c0, hv1, hlen, d2, lt1, Nat.zero_add, p0, d3]))
    refine ⟨?_⟩
    refine doneIns h b c (insP c L) L _ kh hz hip _ (by simp only [B, F, reduceLT, reduceLeDiff, reduceEqDiff, reduceAdd, reduceMul, reduceSub, ↓reduceIte, eq_self, t0]) (by simp only [B, F, reduceLT, reduceLeDiff, reduceEqDiff, reduceAdd, reduceMul, reduceSub, ↓reduceIte, eq_self, t1]) (by simp only [B, F, reduceLT, reduceLeDiff, reduceEqDiff, reduceAdd, reduceMul, reduceSub, ↓reduceIte, eq_self, t13]) _ ?_
    intro tm2 hz2 v2 hk og2 rf2 hb2
    repeat' (first | (with_reducible refine stop11 ?_) | ((with_reducible refine st1 ?_); (conv => whnf); (with_reducible refine ⟨?_⟩)) | ((with_reducible refine retW_intro rfl ?_); (conv => arg 2; whnf)) | ((with_reducible first | refine iB ?_ ?_ | refine gWt ?_ ?_ | refine gWf ?_ ?_) <;> intro hb <;> (try simp only [hb])) | (simp only [B, F, reduceLT, reduceLeDiff, reduceEqDiff, reduceAdd, reduceMul, reduceSub, ↓reduceIte, eq_self]))
    refine ⟨?_⟩
    refine fin tm2 hz2 v2 (fun j hj => ?_) og2 rf2 hb2
    rw [hk j hj]
    repeat rw [T.get_set, if_neg (by omega)]
   ·have d2 : decide (insP c L < L.length) = false := decide_eq_false hil
    repeat' (first | (with_reducible refine stop11i ?_) | ((with_reducible refine st1 ?_); (conv => whnf); (with_reducible refine ⟨?_⟩)) | ((with_reducible refine retW_intro rfl ?_); (conv => arg 2; whnf)) | ((with_reducible first | refine iB ?_ ?_ | refine gWt ?_ ?_ | refine gWf ?_ ?_) <;> intro hb <;> (try simp only [hb])) | (simp only [B, F, reduceLT, reduceLeDiff, reduceEqDiff, reduceAdd, reduceMul, reduceSub, ↓reduceIte, eq_self, t0, t1, t13, c0, hv1, hlen, d2]))
    refine ⟨?_⟩
    refine doneIns h b c (insP c L) L _ kh hz hip _ (by simp only [B, F, reduceLT, reduceLeDiff, reduceEqDiff, reduceAdd, reduceMul, reduceSub, ↓reduceIte, eq_self, t0]) (by simp only [B, F, reduceLT, reduceLeDiff, reduceEqDiff, reduceAdd, reduceMul, reduceSub, ↓reduceIte, eq_self, t1]) (by simp only [B, F, reduceLT, reduceLeDiff, reduceEqDiff, reduceAdd, reduceMul, reduceSub, ↓reduceIte, eq_self, t13]) _ ?_
    intro tm2 hz2 v2 hk og2 rf2 hb2
    repeat' (first | (with_reducible refine stop11 ?_) | ((with_reducible refine st1 ?_); (conv => whnf); (with_reducible refine ⟨?_⟩)) | ((with_reducible refine retW_intro rfl ?_); (conv => arg 2; whnf)) | ((with_reducible first | refine iB ?_ ?_ | refine gWt ?_ ?_ | refine gWf ?_ ?_) <;> intro hb <;> (try simp only [hb])) | (simp only [B, F, reduceLT, reduceLeDiff, reduceEqDiff, reduceAdd, reduceMul, reduceSub, ↓reduceIte, eq_self]))
    refine ⟨?_⟩
    refine fin tm2 hz2 v2 (fun j hj => ?_) og2 rf2 hb2
    rw [hk j hj]
    repeat rw [T.get_set, if_neg (by omega)]
end
end Go.Proofs.YtllmfnedkhiomaaDoor.S

namespace Go.Proofs.YtllmfnedkhiomaaDoor.S
open Go Go.AX
noncomputable section
set_option maxRecDepth 100000
def allP (L : List Rw) : List Kp := L.flatMap prs
def OkRw (y : Rw) : Prop := y.1 < 281474976710656 ∧ y.2.1 < M64 ∧ y.2.2.length ≤ 4000
theorem prs_len {y : Rw} (h : OkRw y) : (prs y).length ≤ 60 := by
 obtain ⟨c, n, s⟩ := y
 have hM : M64 = 18446744073709551616 := rfl
 have : (textP n s).length ≤ 5020:= by unfold textP; have := encN_len h.2.1; have := encN_len (n := s.length) (by have := h.2.2; simp only at this; omega); have := h.2.2; simp only at *; simp; omega
 unfold prs cntP; simp; omega
theorem allP_len : ∀ {L : List Rw}, (∀ y, y ∈ L → OkRw y) → (allP L).length ≤ L.length * 60
 | [], _ => by simp [allP]
 | a :: L, h => by
  have h1 := prs_len (h a (by simp))
  have h2 := allP_len (L := L) fun y hy => h y (by simp [hy])
  unfold allP at h2 ⊢
  rw [List.flatMap_cons, List.length_append, List.length_cons]; omega
structure ApI (h0 : H) (b : Nat) (L : List Rw) (m : Nat) (ds : List Nat) (tm : T AV) (h : H) (i : Nat) (w : AV) : Prop where
 ds : ds = []
 nn : m = L.length - i
 ii : i ≤ L.length
 t0 : tm.get 0 = some (.ptr b 0)
 t3 : tm.get 3 = some w
 t4 : tm.get 4 = some (.int .i64 (.ofNat i))
 gr : Grows 2 h0.nx h w (allP (L.take i)).length (kpsC (allP (L.take i)))
 oo : Og h0 h []
theorem rPairsC (h0 : H) (b : Nat) (L : List Rw) (v : AV) (k : RfAt h0 b L v) (hz : L.length ≤ 900) (hL : ∀ y, y ∈ L → OkRw y) :
  PushC P (.enter 15 [.ptr b 0] h0) fun u h' => Og h0 h' [] ∧ Grows 2 h0.nx h' u (allP L).length (kpsC (allP L)) := by
 have hlen := k.gr.slice.len (P := P) u39a
 have hv1 := k.gr.one
 have klt := k.lt
 refine pushC_of_codeW (fn := Tryd.f15) (c := bodyC Tryd.f15) Tryd.func15 rfl ?_
 show codeW P 15 25 none _ _ _ _ _
 refine codeW_root ?_
 repeat' (first | ((with_reducible refine st1 ?_); (conv => whnf); (with_reducible refine ⟨?_⟩)) | ((with_reducible refine retW_intro rfl ?_); (conv => arg 2; whnf)) | ((with_reducible first | refine iB ?_ ?_ | refine gWt ?_ ?_ | refine gWf ?_ ?_) <;> intro hb <;> (try simp only [hb])) | (simp only [B, F, reduceLT, reduceLeDiff, reduceEqDiff, reduceAdd, reduceMul, reduceSub, ↓reduceIte, eq_self]))
 refine st_loop (fun m ds tm h => ∃ i w, ApI h0 b L m ds tm h i w) L.length rfl ⟨0, .nilslice, rfl, rfl, Nat.zero_le _, by simp only [B, F, reduceLT, reduceLeDiff, reduceEqDiff, reduceAdd, reduceMul, reduceSub, ↓reduceIte, eq_self], by simp only [B, F, reduceLT, reduceLeDiff, reduceEqDiff, reduceAdd, reduceMul, reduceSub, ↓reduceIte, eq_self], by simp only [B, F, reduceLT, reduceLeDiff, reduceEqDiff, reduceAdd, reduceMul, reduceSub, ↓reduceIte, eq_self], Grows.none, Og.refl _ _⟩ (fun m ds tm h hI => ?_)
 obtain ⟨i, w, rfl, rfl, ii, t0, t3, t4, gr, oo⟩ := hI
 have kh := k.keep oo (by simp)
 have c0 := kh.c0
 have gro := gr.one
 by_cases hi : i < L.length
 ·have d1 : decide (i < L.length) = true := decide_eq_true hi
  have lt1 : (i < L.length) = True:= by simp [hi]
  obtain ⟨⟨c, n, s⟩, hx⟩ : ∃ x, L[i]? = some x := ⟨_, List.getElem?_eq_getElem hi⟩
  have hy := hL _ (List.mem_of_getElem? hx)
  have hpl := prs_len hy
  have hal := allP_len (L := L.take i) fun y q => hL y (List.mem_of_mem_take q)
  have htl : (L.take i).length = i:= by rw [List.length_take]; omega
  have grk := kh.gr
  obtain ⟨bv, ov, cv, rfl, hbv, -⟩ := grk.slice.place (by omega)
  obtain rfl : ov = 0:= by cases grk; rfl
  obtain ⟨q0, q1, q2⟩ := rws_at grk hx
  simp only at q0 q1 q2
  have w1 : wrapF .i64 (Int.ofNat i + Int.ofNat 1) = Int.ofNat (i + 1) := i64_add (by omega)
  repeat' (first | ((with_reducible refine st1 ?_); (conv => whnf); (with_reducible refine ⟨?_⟩)) | ((with_reducible refine retW_intro rfl ?_); (conv => arg 2; whnf)) | ((with_reducible first | refine iB ?_ ?_ | refine gWt ?_ ?_ | refine gWf ?_ ?_) <;> intro hb <;> (try simp only [hb])) | (simp only [B, F, reduceLT, reduceLeDiff, reduceEqDiff, reduceAdd, reduceMul, reduceSub, ↓reduceIte, eq_self, t0, t3, t4, c0, hv1, hlen, gro, d1, lt1, Nat.zero_add, q0, q1, q2]))
  have hy2 := hy.2.2
  simp only at hy2
  refine ((rowPairs h c n s hy.1 hy.2.1 (by omega)).call P).mono P ?_
  rintro u h3 ⟨o3, g3⟩
  have g3o := g3.one
  have gr3 : Grows 2 h0.nx h3 w _ _ := gr.of_get o3.1.1 (fun d e => o3.1.2 d (gr.base e).2 (by simp))
  have x3 := o3.1.1
  have x0 := oo.1.1
  repeat' (first | ((with_reducible refine st1 ?_); (conv => whnf); (with_reducible refine ⟨?_⟩)) | ((with_reducible refine retW_intro rfl ?_); (conv => arg 2; whnf)) | ((with_reducible first | refine iB ?_ ?_ | refine gWt ?_ ?_ | refine gWf ?_ ?_) <;> intro hb <;> (try simp only [hb])) | (simp only [B, F, reduceLT, reduceLeDiff, reduceEqDiff, reduceAdd, reduceMul, reduceSub, ↓reduceIte, eq_self, t0, t3, t4, c0, hv1, hlen, gro, g3o]))
  refine app_row (by omega) u44a i44 gr3 g3 (by omega) (by omega) (fun v7 h7 g7 x7 old7 bl7 gg7 => ?_)
  have g7o := g7.one
  repeat' (first | ((with_reducible refine st1 ?_); (conv => whnf); (with_reducible refine ⟨?_⟩)) | ((with_reducible refine retW_intro rfl ?_); (conv => arg 2; whnf)) | ((with_reducible first | refine iB ?_ ?_ | refine gWt ?_ ?_ | refine gWf ?_ ?_) <;> intro hb <;> (try simp only [hb])) | (simp only [B, F, reduceLT, reduceLeDiff, reduceEqDiff, reduceAdd, reduceMul, reduceSub, ↓reduceIte, eq_self, t4, g7o, w1]))
  have htk : allP (L.take (i + 1)) = allP (L.take i) ++ prs (c, n, s) := by
   unfold allP
   rw [List.take_add_one, hx, List.flatMap_append]; simp
  refine ⟨L.length - (i + 1), by omega, i + 1, v7, rfl, rfl, by omega, by simp only [B, F, reduceLT, reduceLeDiff, reduceEqDiff, reduceAdd, reduceMul, reduceSub, ↓reduceIte, eq_self, t0], by simp only [B, F, reduceLT, reduceLeDiff, reduceEqDiff, reduceAdd, reduceMul, reduceSub, ↓reduceIte, eq_self], by simp only [B, F, reduceLT, reduceLeDiff, reduceEqDiff, reduceAdd, reduceMul, reduceSub, ↓reduceIte, eq_self], by rw [htk, kps_app, List.length_append]; exact g7, ⟨by omega, fun d hd _ => ?_⟩, by rw [gg7, o3.2, oo.2]⟩
  rw [old7 d (by omega) (fun e => by have := (gr.base e).1; omega), o3.1.2 d (by omega) (by simp), oo.1.2 d hd (by simp)]
 ·have d1 : decide (i < L.length) = false := decide_eq_false hi
  obtain rfl : i = L.length:= by omega
  rw [List.take_length] at gr
  repeat' (first | ((with_reducible refine st1 ?_); (conv => whnf); (with_reducible refine ⟨?_⟩)) | ((with_reducible refine retW_intro rfl ?_); (conv => arg 2; whnf)) | ((with_reducible first | refine iB ?_ ?_ | refine gWt ?_ ?_ | refine gWf ?_ ?_) <;> intro hb <;> (try simp only [hb])) | (simp only [B, F, reduceLT, reduceLeDiff, reduceEqDiff, reduceAdd, reduceMul, reduceSub, ↓reduceIte, eq_self, t0, t3, t4, c0, hv1, hlen, gro, d1]))
  exact ⟨oo, gr⟩
structure SmI (h0 : H) (va vb : AV) (n : Nat) (m : Nat) (ds : List Nat) (tm : T AV) (h : H) (i : Nat) : Prop where
 ds : ds = []
 nn : m = n - i
 ii : i ≤ n
 t0 : tm.get 0 = some va
 t1 : tm.get 1 = some vb
 t5 : tm.get 5 = some (.int .i64 (.ofNat i))
 oo : Og h0 h []
theorem sameC (h0 : H) (va vb : AV) (A : List Kp) (ba bb : Nat) (ga : Grows 2 ba h0 va A.length (kpsC A)) (gb : Grows 2 bb h0 vb A.length (kpsC A)) (hz : A.length ≤ 100000) :
  PushC P (.enter 12 [va, vb] h0) (SaysG h0 (.bool true)) := by
 have hla := ga.slice.len (P := P) u44a
 have hlb := gb.slice.len (P := P) u44a
 have va1 := ga.one
 have vb1 := gb.one
 have dd : decide (A.length = A.length) = true := decide_eq_true rfl
 refine pushC_of_codeW (fn := Tryd.f12) (c := bodyC Tryd.f12) Tryd.func12 rfl ?_
 show codeW P 12 26 none _ _ _ _ _
 refine codeW_root ?_
 repeat' (first | ((with_reducible refine st1 ?_); (conv => whnf); (with_reducible refine ⟨?_⟩)) | ((with_reducible refine retW_intro rfl ?_); (conv => arg 2; whnf)) | ((with_reducible first | refine iB ?_ ?_ | refine gWt ?_ ?_ | refine gWf ?_ ?_) <;> intro hb <;> (try simp only [hb])) | (simp only [B, xB, F, reduceLT, reduceLeDiff, reduceEqDiff, reduceAdd, reduceMul, reduceSub, ↓reduceIte, eq_self, va1, vb1, hla, hlb, dd, Bool.not_true]))
 refine st_loop (fun m ds tm h => ∃ i, SmI h0 va vb A.length m ds tm h i) A.length rfl ⟨0, rfl, rfl, Nat.zero_le _, by simp only [B, xB, F, reduceLT, reduceLeDiff, reduceEqDiff, reduceAdd, reduceMul, reduceSub, ↓reduceIte, eq_self], by simp only [B, xB, F, reduceLT, reduceLeDiff, reduceEqDiff, reduceAdd, reduceMul, reduceSub, ↓reduceIte, eq_self], by simp only [B, xB, F, reduceLT, reduceLeDiff, reduceEqDiff, reduceAdd, reduceMul, reduceSub, ↓reduceIte, eq_self], Og.refl _ _⟩ (fun m ds tm h hI => ?_)
 obtain ⟨i, rfl, rfl, ii, t0, t1, t5, oo⟩ := hI
 have ga1 : Grows 2 ba h va A.length (kpsC A) := ga.of_get oo.1.1 (fun d e => oo.1.2 d (ga.base e).2 (by simp))
 have gb1 : Grows 2 bb h vb A.length (kpsC A) := gb.of_get oo.1.1 (fun d e => oo.1.2 d (gb.base e).2 (by simp))
 by_cases hi : i < A.length
 ·have d1 : decide (i < A.length) = true := decide_eq_true hi
  have lt1 : (i < A.length) = True:= by simp [hi]
  obtain ⟨⟨k, p⟩, hx⟩ : ∃ x, A[i]? = some x := ⟨_, List.getElem?_eq_getElem hi⟩
  obtain ⟨bv, ov, cv, rfl, hbv, -⟩ := ga1.slice.place (by omega)
  obtain rfl : ov = 0:= by cases ga1; rfl
  obtain ⟨bw, ow, cw, rfl, hbw, -⟩ := gb1.slice.place (by omega)
  obtain rfl : ow = 0:= by cases gb1; rfl
  obtain ⟨a0, a1⟩ := kps_at ga1 hx
  obtain ⟨b0, b1⟩ := kps_at gb1 hx
  simp only at a0 a1 b0 b1
  have w1 : wrapF .i64 (Int.ofNat i + Int.ofNat 1) = Int.ofNat (i + 1) := i64_add (by omega)
  have ek : listEqB k k = true := (listEqB_iff k k).2 rfl
  have ep : listEqB p p = true := (listEqB_iff p p).2 rfl
  repeat' (first | ((with_reducible refine st1 ?_); (conv => whnf); (with_reducible refine ⟨?_⟩)) | ((with_reducible refine st_dw ?_ rfl rfl ?_ ?_); exact rfl; kernel_rfl; (conv => arg 5; whnf); (conv => arg 3; whnf)) | ((with_reducible refine retW_intro rfl ?_); (conv => arg 2; whnf)) | ((with_reducible first | refine iB ?_ ?_ | refine gWt ?_ ?_ | refine gWf ?_ ?_ | refine gXt ?_ ?_ | refine gXf ?_ ?_) <;> intro hb <;> (try simp only [hb])) | ((with_reducible show drawI _ _ _ _ _ _ _ _ _); first | ((with_reducible refine kI_rd ?_ ?_); exact rfl) | ((with_reducible apply kI_rg); exact rfl; exact rfl) | ((with_reducible refine kI_cv ?_ ?_ ?_); exact rfl; kernel_rfl) | ((with_reducible apply kI_al); exact rfl; exact rfl) | ((with_reducible refine kI_ex ?_ ?_ ?_ ?_ ?_); exact rfl; kernel_rfl; exact rfl) | ((with_reducible apply kI_eg); exact rfl; kernel_rfl; exact rfl) | ((with_reducible refine kI_nl ?_ ?_))) | ((with_reducible show eOk _ _ _ _ _ _); first | (exact eok_nil) | (refine ke_rd ?_ ?_ ?_; exact rfl) | (apply ke_rg; exact rfl; exact rfl) | (refine ke_cv ?_ ?_ ?_ ?_; exact rfl; kernel_rfl) | (apply ke_fl; exact rfl) | (apply ke_al; exact rfl; exact rfl)) | ((with_reducible refine freshIs_new ?_); kernel_rfl) | (simp only [B, xB, F, reduceLT, reduceLeDiff, reduceEqDiff, reduceAdd, reduceMul, reduceSub, ↓reduceIte, eq_self, t0, t1, t5, va1, vb1, hla, hlb, d1, lt1, Nat.zero_add, a0, a1, b0, b1, ek, ep, w1]))
  exact ⟨A.length - (i + 1), by omega, i + 1, rfl, rfl, by omega, by simp only [B, xB, F, reduceLT, reduceLeDiff, reduceEqDiff, reduceAdd, reduceMul, reduceSub, ↓reduceIte, eq_self, t0], by simp only [B, xB, F, reduceLT, reduceLeDiff, reduceEqDiff, reduceAdd, reduceMul, reduceSub, ↓reduceIte, eq_self, t1], by simp only [B, xB, F, reduceLT, reduceLeDiff, reduceEqDiff, reduceAdd, reduceMul, reduceSub, ↓reduceIte, eq_self], oo⟩
 ·have d1 : decide (i < A.length) = false := decide_eq_false hi
  repeat' (first | ((with_reducible refine st1 ?_); (conv => whnf); (with_reducible refine ⟨?_⟩)) | ((with_reducible refine retW_intro rfl ?_); (conv => arg 2; whnf)) | ((with_reducible first | refine iB ?_ ?_ | refine gWt ?_ ?_ | refine gWf ?_ ?_) <;> intro hb <;> (try simp only [hb])) | (simp only [B, xB, F, reduceLT, reduceLeDiff, reduceEqDiff, reduceAdd, reduceMul, reduceSub, ↓reduceIte, eq_self, t0, t1, t5, va1, vb1, hla, hlb, d1]))
  exact ⟨rfl, oo⟩
end
end Go.Proofs.YtllmfnedkhiomaaDoor.S

namespace Go.Proofs.YtllmfnedkhiomaaDoor.S
open Go Go.AX
noncomputable section
set_option maxRecDepth 100000
theorem retW_undefL {fn : Func} {rl : List ResultVar} {tm : T AV} {Q : AV → H → Prop} (hl : fn.results.toList = rl) : ∀ (ds : List Nat) (h : H), ds.Nodup → (∀ d, d ∈ ds → h.t.get d = some (.deferred (some []))) →
  (∀ h', h'.nx = h.nx → (∀ c, c ∉ ds → h'.t.get c = h.t.get c) → h'.g = h.g → retW P rl tm h' Q) → retK P fn Q .ret ds tm h
 | [], h, _, _, hw => retW_intro hl (hw h rfl (fun _ _ => rfl) rfl)
 | d :: ds, h, hn, hd, hw => by
  rw [List.nodup_cons] at hn
  have ih := retW_undefL (tm := tm) (Q := Q) hl ds (h.obj d (.deferred none)) hn.2 (fun e he => by rw [get_obj_ne (fun q => hn.1 (by rw [← q]; exact he))]; exact hd e (by simp [he])) (fun h' e1 e2 e3 => hw h' e1 (fun c hc => by
   simp only [List.mem_cons, not_or] at hc
   rw [e2 c hc.2, get_obj_ne hc.1]) e3)
  rw [retK_ret] at ih ⊢
  obtain ⟨h2, hu, r⟩ := ih
  refine ⟨h2, ?_, r⟩
  unfold AX.undef
  rw [hd d (by simp)]
  exact hu
def outF (L : List (List Nat × AV)) (ps : List Kp) : List (List Nat × AV) := ps.foldl (fun L p => mapPut p.1 (.str p.2) L) L
theorem outF_s (L : List (List Nat × AV)) {ps : List Kp} {i : Nat} {p : Kp} (h : ps[i]? = some p) : outF L (ps.take (i + 1)) = mapPut p.1 (.str p.2) (outF L (ps.take i)) := by
 unfold outF
 rw [List.take_add_one, h, List.foldl_append]; rfl
theorem prs_at {c n i : Nat} {s : List Nat} (h : i < cntP (textP n s)) : (prs (c, n, s))[i]? = some (keyP c i, pieceP (textP n s) i) := by
 unfold prs
 rw [List.getElem?_map, List.getElem?_range h]; rfl
theorem prs_len' (c n : Nat) (s : List Nat) : (prs (c, n, s)).length = cntP (textP n s):= by unfold prs; simp
noncomputable abbrev loopP (hk : H) (tm : T AV) : ALoop := loopR 14 31 tm [25, 26] (codeI (bodyC Tryd.f14) [0, 0, 1, 1, 0, 1, 1, 0, 0, 1, 0, 1, 1, 1]) (codeI (bodyC Tryd.f14) [1, 0, 1, 1, 0, 1, 1, 0, 0, 1, 0, 1, 1, 1]) hk.nx .ready
theorem roundP (hk : H) (ro bo : Nat) (tm : T AV) (t3 : tm.get 3 = some (.ptr bo 0)) (cb : cellAt hk bo 0 = some (.map ro)) (hbo : bo < hk.nx) (hro : ro < hk.nx) (hne : bo ≠ ro) (h : H) (key p : List Nat) (L : List (List Nat × AV)) (hj : OJ hk ro (loopP hk tm) L h) :
  PushC P (.round (hk.nx + 1) [.str key, .str p] h) fun v h' => v = .bool true ∧ OJ hk ro (loopP hk tm) (mapPut key (.str p) L) h' := by
 refine round_walk (tm := (tm.set 25 (some (.str key))).set 26 (some (.str p))) hj.lp rfl ?_
 show codeW P 14 31 (some (hk.nx + 1)) (codeI (bodyC Tryd.f14) [0, 0, 1, 1, 0, 1, 1, 0, 0, 1, 0, 1, 1, 1]) _ _ _ _
 repeat' (first | ((with_reducible refine st1 ?_); (conv => whnf); (with_reducible refine ⟨?_⟩)) | ((with_reducible refine retW_intro rfl ?_); (conv => arg 2; whnf)) | ((with_reducible first | refine iB ?_ ?_ | refine gWt ?_ ?_ | refine gWf ?_ ?_) <;> intro hb <;> (try simp only [hb])) | (simp only [B, F, reduceLT, reduceLeDiff, reduceEqDiff, reduceAdd, reduceMul, reduceSub, ↓reduceIte, eq_self]))
 refine asg_norm hj.lp rfl ?_
 show codeW P 14 31 (some (hk.nx + 1)) (codeI (bodyC Tryd.f14) [1, 0, 1, 1, 0, 1, 1, 0, 0, 1, 0, 1, 1, 1]) _ _ _ _
 have j1 : OJ hk ro { loopP hk tm with state := .busy } L (h.obj (hk.nx + 1) (.loop { loopP hk tm with state := .busy })) := hj.state hro
 obtain ⟨h1, e1⟩ : ∃ h1, h1 = h.obj (hk.nx + 1) (.loop { loopP hk tm with state := .busy }) := ⟨_, rfl⟩
 rw [← e1] at j1
 have cb1 : cellAt h1 bo 0 = some (.map ro):= by rw [cellAt_of_get (j1.old bo hbo hne)]; exact cb
 obtain ⟨h3, hu, m3, x3, o3, g3⟩ := update_k u31a k9 j1.mp key (.str p)
 have j3 := j1.put o3 hro m3 g3
 rw [← e1]
 repeat' (first | ((with_reducible refine st1 ?_); (conv => whnf); (with_reducible refine ⟨?_⟩)) | ((with_reducible refine retW_intro rfl ?_); (conv => arg 2; whnf)) | ((with_reducible first | refine iB ?_ ?_ | refine gWt ?_ ?_ | refine gWf ?_ ?_) <;> intro hb <;> (try simp only [hb])) | (simp only [B, F, reduceLT, reduceLeDiff, reduceEqDiff, reduceAdd, reduceMul, reduceSub, ↓reduceIte, eq_self, t3, cb1, @ex_mapUpdate, hu, oH_some]))
 exact roundEnd_norm (r := loopP hk tm) j3.lp rfl rfl ⟨rfl, j3.state hro⟩
theorem loopPC (hk : H) (ro bo b1 b2 c num : Nat) (r : List Nat) (L0 : List (List Nat × AV)) (ds : List Nat) (tm : T AV) (K : KQ) (t24 : tm.get 24 = some (.func 21 [] [.ptr b1 0, .ptr b2 0])) (t3 : tm.get 3 = some (.ptr bo 0)) (cb : cellAt hk bo 0 = some (.map ro)) (hbo : bo < hk.nx) (hne : bo ≠ ro) (gl : Gl hk) (hr3 : ro ≠ 3)
  (mp : MapK encS hk ro L0) (k0 : cellAt hk b1 0 = some (.int .u64 (.ofNat num))) (k1 : cellAt hk b1 1 = some (.str r)) (k2 : cellAt hk b2 0 = some (.int .u64 (.ofNat c))) (hb1 : b1 < hk.nx) (hb2 : b2 < hk.nx) (n2 : b2 ≠ ro) (hn : num < M64) (hr : r.length < 5000) (hc : c < M64)
  (hK : ∀ h2, hk.nx + 2 ≤ h2.nx → (∀ b, b < hk.nx → b ≠ ro → h2.t.get b = hk.t.get b) → h2.t.get hk.nx = some (.deferred (some [])) → h2.g = hk.g → MapK encS h2 ro (outF L0 (prs (c, num, r))) → K .norm (hk.nx :: ds) tm h2) :
  codeW P 14 31 none (codeI (bodyC Tryd.f14) [0, 1, 1, 0, 1, 1, 0, 0, 1, 0, 1, 1, 1]) ds tm hk K := by
 have hro := mp.lt
 refine st_rf rfl (f := .tmp 24) (ps := #[25, 26]) rfl rfl ?_
 refine rf_walk (g := 21) (cap := [.ptr b1 0, .ptr b2 0]) (by rw [evalA_tmp, t24]; rfl) (fun args h => callV_func 21 (by kernel_rfl) [] _ args) ?_
 have hbase : ∀ b, b < hk.nx → (loopH hk 14 31 tm [25, 26] (codeI (bodyC Tryd.f14) [0, 0, 1, 1, 0, 1, 1, 0, 0, 1, 0, 1, 1, 1]) (codeI (bodyC Tryd.f14) [1, 0, 1, 1, 0, 1, 1, 0, 0, 1, 0, 1, 1, 1])).t.get b = hk.t.get b := fun b hb => by rw [loopH_get, if_neg (by omega), if_neg (by omega)]
 have hJ0 : OJ hk ro (loopP hk tm) L0 (loopH hk 14 31 tm [25, 26] (codeI (bodyC Tryd.f14) [0, 0, 1, 1, 0, 1, 1, 0, 0, 1, 0, 1, 1, 1]) (codeI (bodyC Tryd.f14) [1, 0, 1, 1, 0, 1, 1, 0, 0, 1, 0, 1, 1, 1])) :=
  ⟨by rw [loopH_nx]; omega, fun b hb _ => hbase b hb, by rw [loopH_get, if_pos rfl], by rw [loopH_get, if_neg (by omega), if_pos rfl], mp.get (by rw [loopH_nx]; omega) (hbase _ hro), rfl⟩
 refine (piecesC _ (hk.nx + 1) b1 b2 c num r hn hr hc (fun i h => OJ hk ro (loopP hk tm) (outF L0 ((prs (c, num, r)).take i)) h) (by rw [cellAt_of_get (hbase _ hb1)]; exact k0) (by rw [cellAt_of_get (hbase _ hb1)]; exact k1) (by rw [loopH_nx]; omega) (fun i h h' j o => j.keep o)
  (fun i h j => ⟨gl.hk (by have := j.nx; omega) j.old hr3 j.g, by rw [cellAt_of_get (j.old _ hb2 n2)]; exact k2, by have := j.nx; omega⟩) (fun i h j hi => ?_) hJ0).mono P ?_
 ·rw [outF_s L0 (prs_at hi)]
  exact roundP hk ro bo tm t3 cb hbo hro hne h _ _ _ j
 rintro _ h2 j
 refine ⟨j.lp, ?_⟩
 have j2 : OJ hk ro { loopP hk tm with state := .exhausted } _ _ := j.state (R' := { loopP hk tm with state := .exhausted }) hro
 refine hK _ j2.nx j2.old j2.df j2.g ?_
 have := j2.mp
 rw [← prs_len' c num r, List.take_length] at this
 exact this
end
end Go.Proofs.YtllmfnedkhiomaaDoor.S

namespace Go.Proofs.YtllmfnedkhiomaaDoor.S
open Go Go.AX
noncomputable section
set_option maxRecDepth 100000
theorem mapV_split {R : List Rw} {p : Nat × AV} {R1 R2 : List (Nat × AV)} (h : mapV R = R1 ++ p :: R2) : ∃ S1 x S2, R = S1 ++ x :: S2 ∧ mapV S1 = R1 ∧ p = (x.1, lsA x.2) ∧ mapV S2 = R2 := by
 unfold mapV at h
 obtain ⟨S1, S', e, q1, q2⟩ := List.map_eq_append_iff.1 h
 obtain ⟨x, S2, e2, q3, q4⟩ := List.map_eq_cons_iff.1 q2
 subst e2
 exact ⟨S1, x, S2, e, q1, q3.symm, q4⟩
theorem perm_step {α : Type} {V S1 S2 L : List α} {x : α} (h : (V ++ (S1 ++ x :: S2)).Perm L) : (V ++ [x] ++ (S1 ++ S2)).Perm L := by
 refine List.Perm.trans ?_ h
 rw [List.append_assoc]
 refine List.Perm.append_left V ?_
 rw [List.singleton_append]
 exact List.perm_middle.symm
theorem mapV_app (A B : List Rw) : mapV (A ++ B) = mapV A ++ mapV B:= by unfold mapV; rw [List.map_append]
structure PaI (h0 : H) (b r bo ro it : Nat) (Bk : List Rw) (m : Nat) (ds : List Nat) (tm : T AV) (h : H) (V R : List Rw) : Prop where
 nn : m = R.length
 pm : (V ++ R).Perm Bk
 t3 : tm.get 3 = some (.ptr bo 0)
 t16 : tm.get 16 = some (.ptr it 0)
 rg : RngK encU h it r (mapV Bk) (mapV V) (mapV R)
 mp : MapK encS h ro (outF [] (allP V))
 cb : cellAt h bo 0 = some (.map ro)
 nd : ds.Nodup
 df : ∀ d, d ∈ ds → h.t.get d = some (.deferred (some [])) ∧ h0.nx + 3 ≤ d ∧ d < h.nx
 oo : Og h0 h []
theorem pairsC (h0 : H) (b r : Nat) (Bk : List Rw) (k : BkAt h0 b r Bk) (gl : Gl h0) (hB : ∀ y, y ∈ Bk → OkRw y) :
  PushC P (.enter 14 [.ptr b 0] h0) fun u h' => ∃ ro V, u = .map ro ∧ Og h0 h' [] ∧ h0.nx ≤ ro ∧ V.Perm Bk ∧ MapK encS h' ro (outF [] (allP V)) := by
 obtain ⟨h1, h1e⟩ : ∃ h1, h1 = h0.alloc (.map [] 0) := ⟨_, rfl⟩
 have o1 : Og h0 h1 []:= by rw [h1e]; exact (Og.refl _ _).alloc _
 have x1 : h1.nx = h0.nx + 1:= by rw [h1e]; rfl
 have m1 : MapK encS h1 h0.nx []:= by rw [h1e]; exact newMap h0 encS
 obtain ⟨h2, h2e⟩ : ∃ h2, h2 = (h1.newCells 31 [AV.nilmap]).sts h1.nx 0 [.map h0.nx] := ⟨_, rfl⟩
 have o12 : Og h1 h2 []:= by rw [h2e]; exact ((Og.refl _ _).new _ _).sts (.inr (Nat.le_refl _))
 have x2 : h2.nx = h1.nx + 1:= by rw [h2e, nx_sts, nx_new]
 have y2 : cellAt h2 h1.nx 0 = some (.map h0.nx):= by rw [h2e, cellAt_sts (by rw [wrAt_new, if_pos rfl]), if_pos ⟨rfl, Nat.zero_le _, by simp⟩]; rfl
 have o2 := o1.t o12
 have k2 := k.keep o2 (by simp) (by simp)
 have c0 := k2.c0
 have lt0 := k.lt
 have ltr := k.mm.lt
 have gx := gl.x
 obtain ⟨h3, hrg, rg3, x3, o3, gg3⟩ := range_k (P := P) k2.mm u52a
 have o23 : Og h2 h3 [] := ⟨o3, gg3⟩
 have o03 := o2.t o23
 refine pushC_of_codeW (fn := Tryd.f14) (c := bodyC Tryd.f14) Tryd.func14 rfl ?_
 show codeW P 14 31 none _ _ _ _ _
 refine codeW_root ?_
 repeat' (first | ((with_reducible refine st1 ?_); (conv => whnf); (with_reducible refine ⟨?_⟩)) | ((with_reducible refine retW_intro rfl ?_); (conv => arg 2; whnf)) | ((with_reducible first | refine iB ?_ ?_ | refine gWt ?_ ?_ | refine gWf ?_ ?_) <;> intro hb <;> (try simp only [hb])) | (simp only [B, F, reduceLT, reduceLeDiff, reduceEqDiff, reduceAdd, reduceMul, reduceSub, ↓reduceIte, eq_self, mk31, ← h1e, ← h2e, c0, @ex_range, hrg]))
 refine st_loop (fun m ds tm h => ∃ V R, PaI h0 b r h1.nx h0.nx h2.nx Bk m ds tm h V R) Bk.length rfl ⟨[], Bk, rfl, List.Perm.refl _, by simp only [B, F, reduceLT, reduceLeDiff, reduceEqDiff, reduceAdd, reduceMul, reduceSub, ↓reduceIte, eq_self], by simp only [B, F, reduceLT, reduceLeDiff, reduceEqDiff, reduceAdd, reduceMul, reduceSub, ↓reduceIte, eq_self], rg3, (m1.keep o12.1 (by simp)).keep o3 (by simp), kc y2 o23 (by omega) (by simp), List.nodup_nil, fun d hd => (by cases hd), o03⟩ (fun m ds tm h hI => ?_)
 obtain ⟨V, R, rfl, pm, t3, t16, rg, mp, cb, nd, df, oo⟩ := hI
 have xo := oo.1.1
 repeat' (first | (with_reducible refine stopC [0, 0, 0, 1, 0, 1, 1, 1] ?_) | ((with_reducible refine st1 ?_); (conv => whnf); (with_reducible refine ⟨?_⟩)) | ((with_reducible refine retW_intro rfl ?_); (conv => arg 2; whnf)) | ((with_reducible first | refine iB ?_ ?_ | refine gWt ?_ ?_ | refine gWf ?_ ?_) <;> intro hb <;> (try simp only [hb])) | (simp only [B, F, reduceLT, reduceLeDiff, reduceEqDiff, reduceAdd, reduceMul, reduceSub, ↓reduceIte, eq_self]))
 refine ⟨pk1 ?_⟩
 (conv => whnf)
 with_reducible refine ⟨?_⟩
 refine pick_k rfl rfl t16 rg (fun hR => ?_) (fun p R1 R2 h4 hR rg4 x4 o4 gg4 hen => ?_)
 ·obtain rfl : R = []:= by unfold mapV at hR; exact List.map_eq_nil_iff.1 hR
  rw [List.append_nil] at pm
  repeat' (first | ((with_reducible refine st1 ?_); (conv => whnf); (with_reducible refine ⟨?_⟩)) | ((with_reducible refine retW_intro rfl ?_); (conv => arg 2; whnf)) | ((with_reducible first | refine iB ?_ ?_ | refine gWt ?_ ?_ | refine gWf ?_ ?_) <;> intro hb <;> (try simp only [hb])) | (simp only [B, F, reduceLT, reduceLeDiff, reduceEqDiff, reduceAdd, reduceMul, reduceSub, ↓reduceIte, eq_self, t3, cb]))
  refine retW_undefL rfl ds h nd (fun d hd => (df d hd).1) (fun h' e1 e2 e3 => ?_)
  (conv => arg 2; whnf)
  simp only [B, F, reduceLT, reduceLeDiff, reduceEqDiff, reduceAdd, reduceMul, reduceSub, ↓reduceIte, eq_self]
  have hnd : ∀ d, d < h0.nx + 3 → d ∉ ds := fun d hd q => by have := (df d q).2.1; omega
  exact ⟨h0.nx, V, rfl, ⟨⟨by omega, fun d hd _ => by rw [e2 d (hnd d (by omega))]; exact oo.1.2 d hd (by simp)⟩, by rw [e3]; exact oo.2⟩, Nat.le_refl _, pm, mp.get (by omega) (e2 _ (hnd _ (by omega)))⟩
 ·obtain ⟨S1, ⟨c, n, s⟩, S2, rfl, e1, rfl, e2⟩ := mapV_split hR
  have hen4 := hen h4 rfl rfl
  unfold lsA at hen4
  have hy := hB (c, n, s) (pm.mem_iff.1 (by simp))
  have og4 : Og h h4 [h2.nx] := ⟨o4, gg4⟩
  have rl := rg.lt
  have cl := mp.lt
  have cb4 := kc cb og4 (by omega) (by simp; omega)
  have mp4 := mp.keep o4 (by simp; omega)
  obtain ⟨h5, h5e⟩ : ∃ h5, h5 = (h4.newCells 56 [.int .u64 (.ofNat 0), .str []]).sts h4.nx 0 [.int .u64 (.ofNat n), .str s] := ⟨_, rfl⟩
  have o45 : Og h4 h5 []:= by rw [h5e]; exact ((Og.refl _ _).new _ _).sts (.inr (Nat.le_refl _))
  have x5 : h5.nx = h4.nx + 1:= by rw [h5e, nx_sts, nx_new]
  have z0 : cellAt h5 h4.nx 0 = some (.int .u64 (.ofNat n)):= by rw [h5e, cellAt_sts (by rw [wrAt_new, if_pos rfl]), if_pos ⟨rfl, Nat.zero_le _, by simp⟩]; rfl
  have z1 : cellAt h5 h4.nx 1 = some (.str s):= by rw [h5e, cellAt_sts (by rw [wrAt_new, if_pos rfl]), if_pos ⟨rfl, Nat.zero_le _, by simp⟩]; rfl
  repeat' (first | ((with_reducible refine st1 ?_); (conv => whnf); (with_reducible refine ⟨?_⟩)) | ((with_reducible refine retW_intro rfl ?_); (conv => arg 2; whnf)) | ((with_reducible first | refine iB ?_ ?_ | refine gWt ?_ ?_ | refine gWf ?_ ?_) <;> intro hb <;> (try simp only [hb])) | (simp only [B, F, reduceLT, reduceLeDiff, reduceEqDiff, reduceAdd, reduceMul, reduceSub, ↓reduceIte, eq_self, t3, t16, @ex_entry, hen4, ← h5e, z0, z1]))
  refine ((piecC h5 c n s).call P).mono P ?_
  rintro u h6 ⟨rfl, o6, x6, a0, a1, a2⟩
  have o46 := o45.t o6
  have gl6 : Gl h6 := (gl.keep (oo.t ⟨⟨by omega, fun d hd _ => rfl⟩, rfl⟩ : Og h0 h []) (by simp)).keep og4 (by simp; omega) |>.keep o46 (by simp)
  repeat' (first | ((with_reducible refine st1 ?_); (conv => whnf); (with_reducible refine ⟨?_⟩)) | ((with_reducible refine retW_intro rfl ?_); (conv => arg 2; whnf)) | ((with_reducible first | refine iB ?_ ?_ | refine gWt ?_ ?_ | refine gWf ?_ ?_) <;> intro hb <;> (try simp only [hb])) | (simp only [B, F, reduceLT, reduceLeDiff, reduceEqDiff, reduceAdd, reduceMul, reduceSub, ↓reduceIte, eq_self]))
  have hy2 := hy.2.2
  have hy1 := hy.1
  have hy3 := hy.2.1
  simp only at hy1 hy2 hy3
  have hM : M64 = 18446744073709551616 := rfl
  refine loopPC h6 h0.nx h1.nx h5.nx (h5.nx + 1) c n s (outF [] (allP V)) ds _ _ (by simp only [B, F, reduceLT, reduceLeDiff, reduceEqDiff, reduceAdd, reduceMul, reduceSub, ↓reduceIte, eq_self]) (by simp only [B, F, reduceLT, reduceLeDiff, reduceEqDiff, reduceAdd, reduceMul, reduceSub, ↓reduceIte, eq_self, t3]) (kc cb4 o46 (by omega) (by simp)) (by omega) (by omega) gl6 (by omega) (mp4.keep o46.1 (by simp)) a0 a1 a2 (by omega) (by omega) (by omega) hy3 (by omega) (by omega) ?_
  intro h7 x7 old7 df7 g7 m7
  have o07 : Og h0 h7 [] := ⟨⟨by omega, fun d hd _ => by rw [old7 d (by omega) (by omega), o46.1.2 d (by omega) (by simp), o4.2 d (by omega) (by simp; omega)]; exact oo.1.2 d hd (by simp)⟩, by rw [g7, o46.2, gg4, oo.2]⟩
  have rg7 : RngK encU h7 h2.nx r _ _ _ := rg4.get (by omega) (by rw [old7 _ (by omega) (by omega), o46.1.2 _ (by omega) (by simp)]) (by rw [old7 _ (by omega) (by omega), o46.1.2 _ (by omega) (by simp)])
  repeat' (first | ((with_reducible refine st1 ?_); (conv => whnf); (with_reducible refine ⟨?_⟩)) | ((with_reducible refine retW_intro rfl ?_); (conv => arg 2; whnf)) | ((with_reducible first | refine iB ?_ ?_ | refine gWt ?_ ?_ | refine gWf ?_ ?_) <;> intro hb <;> (try simp only [hb])) | (simp only [B, F, reduceLT, reduceLeDiff, reduceEqDiff, reduceAdd, reduceMul, reduceSub, ↓reduceIte, eq_self]))
  refine ⟨(S1 ++ S2).length, by simp, V ++ [(c, n, s)], S1 ++ S2, rfl, perm_step pm, by simp only [B, F, reduceLT, reduceLeDiff, reduceEqDiff, reduceAdd, reduceMul, reduceSub, ↓reduceIte, eq_self, t3], by simp only [B, F, reduceLT, reduceLeDiff, reduceEqDiff, reduceAdd, reduceMul, reduceSub, ↓reduceIte, eq_self, t16], ?_, ?_, ?_, List.nodup_cons.2 ⟨fun q => ?_, nd⟩, fun d hd => ?_, o07⟩
  ·rw [mapV_app, mapV_app, e1, e2]; exact rg7
  ·have : allP (V ++ [(c, n, s)]) = allP V ++ prs (c, n, s):= by unfold allP; rw [List.flatMap_append]; simp
   rw [this]
   unfold outF at m7 ⊢
   rw [List.foldl_append]; exact m7
  ·rw [cellAt_of_get (old7 _ (by omega) (by omega))]; exact kc cb4 o46 (by omega) (by simp)
  ·have := (df _ q).2.2; omega
  ·rcases List.mem_cons.1 hd with rfl | hd
   ·exact ⟨df7, by omega, by omega⟩
   ·obtain ⟨a, b', c'⟩ := df d hd
    exact ⟨by rw [old7 d (by omega) (by omega), o46.1.2 d (by omega) (by simp), o4.2 d c' (by simp; omega)]; exact a, b', by omega⟩
end
end Go.Proofs.YtllmfnedkhiomaaDoor.S

namespace Go.AX
noncomputable section
open Go.RowKit Go.Sort Go.Shelf Go.Proofs
section
variable {P : Program} {ρ : Ren}
theorem texts_of : ∀ (ks : List (List Nat)) (p : Nat → List UInt8 → Prop), (∀ j s, ks[j]? = some s → ∃ x, nats x = s ∧ p j x) → ∃ ss : List (List UInt8), ss.map nats = ks ∧ ∀ j x, ss[j]? = some x → p j x
 | [], p, _ => ⟨[], rfl, fun j x h => by simp at h⟩
 | s :: ks, p, h => by
  obtain ⟨x, hx, px⟩ := h 0 s rfl
  obtain ⟨ss, h1, h2⟩ := texts_of ks (fun j => p (j + 1)) (fun j s hs => h (j + 1) s (by simpa using hs))
  refine ⟨x :: ss, by rw [List.map_cons, hx, h1], fun j y hy => ?_⟩
  cases j with
  | zero => simp at hy; subst hy; exact px
  | succ j => exact h2 j y (by simpa using hy)
theorem sortS_len (l : List (List Nat)) : (sortS l).length = l.length := (sortS_perm l).length_eq
theorem sortStr_ok (L : SlLaysM.n6 P ρ) {h : H} {b o : Nat} {cap : Cap} {ks : List (List Nat)} (hz : ks.length < 4611686018427387904) (hc : CellsAt h b o (ks.map .str)) (hw : wrAt h b = true) (f : FuncId) (hf : ρ.f 6 = f) {Q : AV → H → Prop}
  (hq : Q (.tuple []) (h.sts b o ((sortS ks).map .str))) : CallC P (.enter f [.slice b o ks.length cap] h) Q := by
 classical
 subst hf
 let K : Hook := ⟨fun f0 args h0 => if f0 = ρ.f 6 ∧ args = [.slice b o ks.length cap] ∧ h0 = h then some (.tuple [], h.sts b o ((sortS ks).map .str)) else none, fun _ _ _ => none⟩
 have hK : HookOk P K := by
  refine ⟨?_, fun _ _ _ _ _ h => (by cases h)⟩
  intro f0 args h0 v h' hk N φ w cargs hr hN ha
  replace hk : (if f0 = ρ.f 6 ∧ args = [.slice b o ks.length cap] ∧ h0 = h then some (AV.tuple [], h.sts b o ((sortS ks).map .str)) else none) = some (v, h') := hk
  by_cases hcond : f0 = ρ.f 6 ∧ args = [.slice b o ks.length cap] ∧ h0 = h
  ·rw [if_pos hcond] at hk
   obtain ⟨rfl, rfl, rfl⟩ := hcond
   cases hk
   obtain ⟨v1, vs, hc1, h1, hr2⟩ := All2.cons_left.1 ha
   have := All2.nil_left.1 hr2; subst this
   have hca : cargs = #[v1]:= by cases cargs; simp_all
   subst hca
   obtain ⟨L0, kc, hL, rfl⟩ : ∃ L k, φ b = some L ∧ v1 = .slice (some ⟨L.B, L.base + o, none⟩) ks.length k := by
    cases cap with
    | exact c => rw [VR_sliceEx] at h1; obtain ⟨L, h1, h2⟩ := h1; exact ⟨L, c, h1, h2⟩
    | opn i => rw [VR_sliceOp] at h1; obtain ⟨L, h1, h2, _⟩ := h1; exact ⟨L, _, h1, h2⟩
   unfold wrAt at hw
   split at hw
   ·rename_i m t kk hb
    obtain ⟨c, ty, frz, g1, g2, g3, g4, g5⟩ := hr.get hb hL
    have hlt : L0.B < w.heap.size := (hr.get hb hL).lt
    obtain ⟨hNB, hfr⟩ := g4 rfl
    obtain ⟨ss, hss, hat⟩ := texts_of ks (fun j x => c[L0.base + (o + j)]? = some (encStr x) ∧ o + j < m) (fun j s hs => by
     have hj := (List.getElem?_eq_some_iff.1 hs).1
     have hcj := hc j (by simpa using hj)
     rw [List.getElem?_map, hs] at hcj
     unfold cellAt at hcj
     rw [hb] at hcj
     obtain ⟨q1, q2, cv, q3, q4⟩ := g3 _ _ hcj
     rw [VR_str] at q4
     obtain ⟨ba, rfl, e⟩ := q4
     exact ⟨ba.data.toList, e, by rw [q3], q1⟩)
    have hlen : ss.length = ks.length:= by rw [← hss, List.length_map]
    have hH : Holds encStr w L0.B (L0.base + o) ss.toArray := by
     intro j hj
     have hj' : j < ss.length:= by simpa using hj
     obtain ⟨q3, q5⟩ := hat j ss[j] (List.getElem?_eq_getElem hj')
     have e0 : ss.toArray[j]! = ss[j]:= by rw [getElem!_pos ss.toArray j hj]; rfl
     rw [e0]
     refine ⟨by rw [cell_eq g1, Nat.add_assoc]; exact q3, ?_⟩
     rw [frozen_eq g1]
     have hi := (Array.getElem?_eq_some_iff.1 q3).1
     have := hfr _ hi
     rw [Nat.add_assoc]
     simp only [Bool.and_eq_false_iff, decide_eq_false_iff_not]; omega
    have hcall := AnyM.slices_Sort_string L L0.B (L0.base + o) kc ss w hH hlt (by omega)
    rw [hlen] at hcall
    refine hcall.mono ?_
    rintro e w' ⟨rfl, nd, os, rfl⟩
    obtain ⟨d, hd⟩ : ∃ d, d = ss.mergeSort leB := ⟨_, rfl⟩
    have hdl : d.length = ks.length:= by rw [hd, List.length_mergeSort, hlen]
    have hds : sortS ks = d.map nats:= by rw [hd, ← hss]; exact sortS_mergeSort (List.Perm.refl _)
    have e1 : (ss.mergeSort fun x y => decide (x ≤ y)) = d := hd.symm
    rw [e1]
    have hw1 : ∀ x, (putRow encStr (Sort.ahead w nd) L0.B (L0.base + o) d.toArray).heap[x]? = if x = L0.B then some (.cells (putCells encStr (L0.base + o) d.toArray c) ty frz) else w.heap[x]? := by
     intro x
     unfold putRow mapBlock
     simp only [Array.getElem?_modify, heap_ahead]
     by_cases q : L0.B = x
     ·subst q; rw [if_pos rfl, if_pos rfl, g1]; rfl
     ·rw [if_neg q, if_neg (fun e => q e.symm)]
    have hput : HR N φ (h0.sts b o ((sortS ks).map .str)) (putRow encStr (Sort.ahead w nd) L0.B (L0.base + o) d.toArray) := by
     unfold H.sts; rw [hb]
     refine hr.set hb hL _ (fun x hx => by rw [hw1, if_neg hx]) ?_
     have hsz : (putCells encStr (L0.base + o) d.toArray c).size = c.size:= by simp [putCells]
     refine ⟨_, ty, frz, by rw [hw1, if_pos rfl], by rw [hsz]; exact g2, fun i v hi => ?_, fun _ => ⟨hNB, by rw [hsz]; exact hfr⟩, fun e => by rw [hsz]; exact g5.1 e, g5.2⟩
     rw [setL_get] at hi
     have hfl : ((sortS ks).map AV.str).length = ks.length:= by rw [List.length_map, sortS_len]
     have hcl : ∀ v, c[L0.base + i]? = some v → (putCells encStr (L0.base + o) d.toArray c)[L0.base + i]? = some (if L0.base + o ≤ L0.base + i ∧ L0.base + i < L0.base + o + ks.length then encStr d.toArray[L0.base + i - (L0.base + o)]! else v) := by
      intro v hv
      unfold putCells
      rw [Array.getElem?_mapIdx, hv]
      simp only [Option.map_some, List.size_toArray, hdl]
     split at hi
     ·rename_i q
      rw [hfl] at q
      have hj : i - o < d.length:= by rw [hdl]; omega
      rw [hds, List.map_map, List.getElem?_map, List.getElem?_eq_getElem hj] at hi
      simp only [Option.map_some, Option.some.injEq, Function.comp] at hi
      subst hi
      have hj2 : i - o < ss.length:= by omega
      obtain ⟨q3, q5⟩ := hat (i - o) ss[i - o] (List.getElem?_eq_getElem hj2)
      rw [show o + (i - o) = i by omega] at q3 q5
      have e0 : d.toArray[i - o]! = d[i - o]:= by rw [getElem!_pos d.toArray (i - o) (by simpa using hj)]; rfl
      refine ⟨q5, rfl, encStr d[i - o], ?_, ?_⟩
      ·rw [hcl _ q3, if_pos (by omega), show L0.base + i - (L0.base + o) = i - o by omega, e0]
      ·rw [VR_str]; exact ⟨_, rfl, by simp [bytesOf, nats]⟩
     ·rename_i q
      rw [hfl] at q
      obtain ⟨q1, q2, cv, q3, q4⟩ := g3 i v hi
      refine ⟨q1, q2, cv, ?_, q4⟩
      rw [hcl _ q3, if_neg (by omega)]
    have hb1 : Below N.n w (putRow encStr (Sort.ahead w nd) L0.B (L0.base + o) d.toArray) :=
     ⟨rfl, rfl, rfl, by unfold putRow mapBlock; simp, fun x hx => by rw [hw1, if_neg (by omega)]⟩
    have hb2 : Below (putRow encStr (Sort.ahead w nd) L0.B (L0.base + o) d.toArray).heap.size (putRow encStr (Sort.ahead w nd) L0.B (L0.base + o) d.toArray) (grow (putRow encStr (Sort.ahead w nd) L0.B (L0.base + o) d.toArray) os) :=
     ⟨rfl, rfl, rfl, by unfold grow; simp, fun x hx => by unfold grow; simp only; rw [Array.getElem?_append_left hx]⟩
    have hbel : Below N.n w (grow (putRow encStr (Sort.ahead w nd) L0.B (L0.base + o) d.toArray) os) := by
     refine ⟨rfl, rfl, rfl, Nat.le_trans hb1.size hb2.size, fun x hx => ?_⟩
     rw [hb2.block x (by have := hb1.size; omega), hb1.block x hx]
    refine ⟨φ, _, rfl, φ.le_refl, by simp, ?_, hbel⟩
    exact ⟨fun x ox hx hn => let ⟨L1, p1, p2⟩ := hput.obj x ox hx hn; ⟨L1, p1, p2.congr (hb2.block _ p2.lt)⟩, hput.inj, hput.lt, hput.res, hput.glob⟩
   ·cases hw
  ·rw [if_neg hcond] at hk; cases hk
 exact CallC.of_hook P hK (by show (if _ then _ else _) = _; rw [if_pos ⟨rfl, rfl, rfl⟩]) hq
theorem sortStr_none (L : SlLaysM.n6 P ρ) {h : H} (f : FuncId) (hf : ρ.f 6 = f) {Q : AV → H → Prop} (hq : Q (.tuple []) h) : CallC P (.enter f [.nilslice] h) Q := by
 classical
 subst hf
 let K : Hook := ⟨fun f0 args h0 => if f0 = ρ.f 6 ∧ args = [.nilslice] ∧ h0 = h then some (.tuple [], h) else none, fun _ _ _ => none⟩
 have hK : HookOk P K := by
  refine ⟨?_, fun _ _ _ _ _ h => (by cases h)⟩
  intro f0 args h0 v h' hk N φ w cargs hr hN ha
  replace hk : (if f0 = ρ.f 6 ∧ args = [.nilslice] ∧ h0 = h then some (AV.tuple [], h) else none) = some (v, h') := hk
  by_cases hcond : f0 = ρ.f 6 ∧ args = [.nilslice] ∧ h0 = h
  ·rw [if_pos hcond] at hk
   obtain ⟨rfl, rfl, rfl⟩ := hcond
   cases hk
   obtain ⟨v1, vs, hc1, h1, hr2⟩ := All2.cons_left.1 ha
   have := All2.nil_left.1 hr2; subst this
   have hca : cargs = #[v1]:= by cases cargs; simp_all
   subst hca
   rw [VR_nilslice] at h1
   subst h1
   refine (AnyM.slices_Sort_string_none L none 0 w).mono ?_
   rintro e w' ⟨rfl, rfl⟩
   exact ⟨φ, _, rfl, φ.le_refl, by simp, hr, Below.refl _ _⟩
  ·rw [if_neg hcond] at hk; cases hk
 exact CallC.of_hook P hK (by show (if _ then _ else _) = _; rw [if_pos ⟨rfl, rfl, rfl⟩]) hq
end
end
end Go.AX

namespace Go.Proofs
open Go.Shelf
def Tryd.sort28_ren : Go.Shelf.Ren := ⟨fun | 6 => 28 | 8 => 33 | 9 => 32 | 19 => 50 | 20 => 51 | 21 => 41 | 22 => 42 | 23 => 43 | 24 => 44 | 25 => 45 | 26 => 46 | 27 => 47 | 28 => 48 | 29 => 49 | 36 => 61 | 31 => 62 | 32 => 63 | 37 => 64 | 38 => 65 | 39 => 66 | 41 => 73 | n => n, fun | 27 => 67 | 29 => 9 | 3 => 3 | 32 => 78 | 26 => 67 | 0 => 0 | 44 => 27 | 46 => 26 | 4 => 4 | 36 => 94 | 35 => 93 | 41 => 98 | 5 => 5 | 9 => 9 | 53 => 111 | 57 => 115 | 63 => 126 | 64 => 127 | n => n, fun | n => n⟩
theorem Tryd.sort28 : Go.Proofs.SlLaysM.n6 Tryd.prog Tryd.sort28_ren := {
 mixed:= by kernel_rfl
 f6 := ⟨Tryd.f28.name, by decide, Tryd.func28.trans (congrArg some (by kernel_rfl))⟩
 f8 := Tryd.func33.trans (congrArg some (by kernel_rfl))
 f9 := ⟨Tryd.f32.name, by decide, Tryd.func32.trans (congrArg some (by kernel_rfl))⟩
 f19 := Tryd.func50.trans (congrArg some (by kernel_rfl))
 f20 := Tryd.func51.trans (congrArg some (by kernel_rfl))
 f21 := ⟨Tryd.f41.name, by decide, Tryd.func41.trans (congrArg some (by kernel_rfl))⟩
 f22 := ⟨Tryd.f42.name, by decide, Tryd.func42.trans (congrArg some (by kernel_rfl))⟩
 f23 := ⟨Tryd.f43.name, by decide, Tryd.func43.trans (congrArg some (by kernel_rfl))⟩
 f24 := ⟨Tryd.f44.name, by decide, Tryd.func44.trans (congrArg some (by kernel_rfl))⟩
 f25 := ⟨Tryd.f45.name, by decide, Tryd.func45.trans (congrArg some (by kernel_rfl))⟩
 f26 := ⟨Tryd.f46.name, by decide, Tryd.func46.trans (congrArg some (by kernel_rfl))⟩
 f27 := ⟨Tryd.f47.name, by decide, Tryd.func47.trans (congrArg some (by kernel_rfl))⟩
 f28 := ⟨Tryd.f48.name, by decide, Tryd.func48.trans (congrArg some (by kernel_rfl))⟩
 f29 := ⟨Tryd.f49.name, by decide, Tryd.func49.trans (congrArg some (by kernel_rfl))⟩
 f31 := Tryd.func62.trans (congrArg some (by kernel_rfl))
 f32 := Tryd.func63.trans (congrArg some (by kernel_rfl))
 f36 := ⟨Tryd.f61.name, by decide, Tryd.func61.trans (congrArg some (by kernel_rfl))⟩
 f37 := ⟨Tryd.f64.name, by decide, Tryd.func64.trans (congrArg some (by kernel_rfl))⟩
 f38 := ⟨Tryd.f65.name, by decide, Tryd.func65.trans (congrArg some (by kernel_rfl))⟩
 f39 := ⟨Tryd.f66.name, by decide, Tryd.func66.trans (congrArg some (by kernel_rfl))⟩
 f41 := ⟨Tryd.f73.name, by decide, Tryd.func73.trans (congrArg some (by kernel_rfl))⟩
 t0 := Tryd.underlying0
 a0 := Tryd.isAgg0
 z0 := Tryd.sizeOf0
 v0 := Tryd.zeroValue0
 t3 := Tryd.underlying3
 a3 := Tryd.isAgg3
 z3 := Tryd.sizeOf3
 v3 := Tryd.zeroValue3
 t4 := Tryd.underlying4
 a4 := Tryd.isAgg4
 z4 := Tryd.sizeOf4
 v4 := Tryd.zeroValue4
 t5 := Tryd.underlying5
 a5 := Tryd.isAgg5
 z5 := Tryd.sizeOf5
 v5 := Tryd.zeroValue5
 t9 := Tryd.underlying9
 a9 := Tryd.isAgg9
 z9 := Tryd.sizeOf9
 v9 := Tryd.zeroValue9
 t26 := Tryd.underlying67
 a26 := Tryd.isAgg67
 z26 := Tryd.sizeOf67
 v26 := Tryd.zeroValue67
 t27 := Tryd.underlying67
 a27 := Tryd.isAgg67
 z27 := Tryd.sizeOf67
 v27 := Tryd.zeroValue67
 t29 := Tryd.underlying9
 a29 := Tryd.isAgg9
 z29 := Tryd.sizeOf9
 v29 := Tryd.zeroValue9
 t32 := Tryd.underlying78
 a32 := Tryd.isAgg78
 z32 := Tryd.sizeOf78
 v32 := Tryd.zeroValue78
 t35 := Tryd.underlying93
 a35 := Tryd.isAgg93
 z35 := Tryd.sizeOf93
 v35 := Tryd.zeroValue93
 t36 := Tryd.underlying94
 a36 := Tryd.isAgg94
 z36 := Tryd.sizeOf94
 v36 := Tryd.zeroValue94
 t41 := Tryd.underlying98
 a41 := Tryd.isAgg98
 z41 := Tryd.sizeOf98
 v41 := Tryd.zeroValue98
 t44 := Tryd.underlying27
 a44 := Tryd.isAgg27
 z44 := Tryd.sizeOf27
 v44 := Tryd.zeroValue27
 t46 := Tryd.underlying26
 a46 := Tryd.isAgg26
 z46 := Tryd.sizeOf26
 v46 := Tryd.zeroValue26
 t53 := Tryd.underlying111
 a53 := Tryd.isAgg111
 z53 := Tryd.sizeOf111
 v53 := Tryd.zeroValue111
 t57 := Tryd.underlying115
 a57 := Tryd.isAgg115
 z57 := Tryd.sizeOf115
 v57 := Tryd.zeroValue115
 t63 := Tryd.underlying126
 a63 := Tryd.isAgg126
 z63 := Tryd.sizeOf126
 v63 := Tryd.zeroValue126
 t64 := Tryd.underlying127
 a64 := Tryd.isAgg127
 z64 := Tryd.sizeOf127
 v64 := Tryd.zeroValue127 }
end Go.Proofs

namespace Go.Proofs.YtllmfnedkhiomaaDoor.S
open Go Go.AX
noncomputable section
set_option maxRecDepth 100000
theorem u67a : P.underlying 67 = some (.slice 9):= by kernel_rfl
theorem strsC (h : H) (b : Nat) (cap : Cap) (ks : List (List Nat)) (hz : ks.length < 1000000) (hc : CellsAt h b 0 (ks.map .str)) (hw : wrAt h b = true) : PushC P (.enter 20 [.slice b 0 ks.length cap] h) fun v h' => v = .tuple [] ∧ h' = h.sts b 0 ((sortS ks).map .str) := by
 refine pushC_of_codeW (fn := Tryd.f20) (c := bodyC Tryd.f20) Tryd.func20 rfl ?_
 show codeW P 20 4 none _ _ _ _ _
 refine codeW_root ?_
 repeat' (first | ((with_reducible refine st1 ?_); (conv => whnf); (with_reducible refine ⟨?_⟩)) | ((with_reducible refine retW_intro rfl ?_); (conv => arg 2; whnf)) | ((with_reducible first | refine iB ?_ ?_ | refine gWt ?_ ?_ | refine gWf ?_ ?_) <;> intro hb <;> (try simp only [hb])) | (simp only [B, F, reduceLT, reduceLeDiff, reduceEqDiff, reduceAdd, reduceMul, reduceSub, ↓reduceIte, eq_self]))
 refine sortStr_ok Tryd.sort28 (by omega) hc hw 28 rfl ?_
 repeat' (first | ((with_reducible refine st1 ?_); (conv => whnf); (with_reducible refine ⟨?_⟩)) | ((with_reducible refine retW_intro rfl ?_); (conv => arg 2; whnf)) | ((with_reducible first | refine iB ?_ ?_ | refine gWt ?_ ?_ | refine gWf ?_ ?_) <;> intro hb <;> (try simp only [hb])) | (simp only [B, F, reduceLT, reduceLeDiff, reduceEqDiff, reduceAdd, reduceMul, reduceSub, ↓reduceIte, eq_self]))
 rw [retK_norm]
 exact ⟨_, rfl, _, rfl, rfl, rfl⟩
theorem strs0 (h : H) : PushC P (.enter 20 [.nilslice] h) fun v h' => v = .tuple [] ∧ h' = h := by
 refine pushC_of_codeW (fn := Tryd.f20) (c := bodyC Tryd.f20) Tryd.func20 rfl ?_
 show codeW P 20 4 none _ _ _ _ _
 refine codeW_root ?_
 repeat' (first | ((with_reducible refine st1 ?_); (conv => whnf); (with_reducible refine ⟨?_⟩)) | ((with_reducible refine retW_intro rfl ?_); (conv => arg 2; whnf)) | ((with_reducible first | refine iB ?_ ?_ | refine gWt ?_ ?_ | refine gWf ?_ ?_) <;> intro hb <;> (try simp only [hb])) | (simp only [B, F, reduceLT, reduceLeDiff, reduceEqDiff, reduceAdd, reduceMul, reduceSub, ↓reduceIte, eq_self]))
 refine sortStr_none Tryd.sort28 28 rfl ?_
 repeat' (first | ((with_reducible refine st1 ?_); (conv => whnf); (with_reducible refine ⟨?_⟩)) | ((with_reducible refine retW_intro rfl ?_); (conv => arg 2; whnf)) | ((with_reducible first | refine iB ?_ ?_ | refine gWt ?_ ?_ | refine gWf ?_ ?_) <;> intro hb <;> (try simp only [hb])) | (simp only [B, F, reduceLT, reduceLeDiff, reduceEqDiff, reduceAdd, reduceMul, reduceSub, ↓reduceIte, eq_self]))
 rw [retK_norm]
 exact ⟨_, rfl, _, rfl, rfl, rfl⟩
def mS (X : List Kp) : List (List Nat × AV) := X.map fun p => (p.1, .str p.2)
def valX (k : List Nat) (X : List Kp) : List Nat := ((X.find? fun p => decide (k = p.1)).map (·.2)).getD []
theorem get_mS (k : List Nat) : ∀ X : List Kp, (mapGet k (mS X)).getD (.str []) = .str (valX k X)
 | [] => rfl
 | p :: X => by
  have ih := get_mS k X
  unfold mapGet mS valX at *
  rw [List.map_cons, List.find?_cons, List.find?_cons]
  by_cases q : k = p.1
  ·simp [q]
  ·simp only [q, decide_false]; exact ih
theorem mS_split {R : List Kp} {p : List Nat × AV} {R1 R2 : List (List Nat × AV)} (h : mS R = R1 ++ p :: R2) : ∃ S1 x S2, R = S1 ++ x :: S2 ∧ mS S1 = R1 ∧ p = (x.1, .str x.2) ∧ mS S2 = R2 := by
 unfold mS at h
 obtain ⟨S1, S', e, q1, q2⟩ := List.map_eq_append_iff.1 h
 obtain ⟨x, S2, e2, q3, q4⟩ := List.map_eq_cons_iff.1 q2
 subst e2
 exact ⟨S1, x, S2, e, q1, q3.symm, q4⟩
theorem mS_app (A B : List Kp) : mS (A ++ B) = mS A ++ mS B:= by unfold mS; rw [List.map_append]
def strs (ks : List (List Nat)) : List AV := ks.map .str
structure RiI (h0 : H) (ro it : Nat) (X : List Kp) (m : Nat) (ds : List Nat) (tm : T AV) (h : H) (V R : List Kp) (v : AV) : Prop where
 ds : ds = []
 nn : m = R.length
 pm : (V ++ R).Perm X
 t0 : tm.get 0 = some (.map ro)
 t3 : tm.get 3 = some v
 t8 : tm.get 8 = some (.ptr it 0)
 rg : RngK encS h it ro (mS X) (mS V) (mS R)
 gr : Grows 1 (it + 1) h v V.length (strs (V.map (·.1)))
 oo : Og h0 h []
structure RjI (h5 : H) (nb ro : Nat) (X : List Kp) (kv : AV) (ks : List (List Nat)) (m : Nat) (ds : List Nat) (tm : T AV) (h : H) (i : Nat) (v : AV) : Prop where
 ds : ds = []
 nn : m = ks.length - i
 ii : i ≤ ks.length
 t0 : tm.get 0 = some (.map ro)
 t3 : tm.get 3 = some kv
 t5 : tm.get 5 = some v
 t6 : tm.get 6 = some (.int .i64 (.ofNat i))
 gr : Grows 2 nb h v i (kpsC ((ks.take i).map fun k => (k, valX k X)))
 nx : nb ≤ h.nx
 ol : ∀ c, c < nb → h.t.get c = h5.t.get c
 g : h.g = h5.g
theorem z9a : zeroA P 9 = some (.str []):= by kernel_rfl
theorem risingT (h0 h5 : H) (ro : Nat) (X : List Kp) (ks : List (List Nat)) (kv : AV) (mp : MapK encS h5 ro (mS X)) (sk : SliceAt h5 kv ks.length (strs ks)) (oo : Og h0 h5 []) (hz : ks.length ≤ 100000) (tm : T AV) (t0 : tm.get 0 = some (.map ro)) (t3 : tm.get 3 = some kv) (Q : AV → H → Prop)
  (hQ : ∀ u h', Og h0 h' [] → Grows 2 h0.nx h' u ks.length (kpsC (ks.map fun k => (k, valX k X))) → Q u h') :
  codeW P 13 40 none (codeI (bodyC Tryd.f13) [1, 1, 1, 1]) [] tm h5 (retK P Tryd.f13 Q) := by
 have xo := oo.1.1
 have hlen := sk.len (P := P) u67a
 have ltr := mp.lt
 repeat' (first | ((with_reducible refine st1 ?_); (conv => whnf); (with_reducible refine ⟨?_⟩)) | ((with_reducible refine retW_intro rfl ?_); (conv => arg 2; whnf)) | ((with_reducible first | refine iB ?_ ?_ | refine gWt ?_ ?_ | refine gWf ?_ ?_) <;> intro hb <;> (try simp only [hb])) | (simp only [B, xB, F, reduceLT, reduceLeDiff, reduceEqDiff, reduceAdd, reduceMul, reduceSub, ↓reduceIte, eq_self, t0, t3]))
 refine st_loop (fun m ds tm h => ∃ i v, RjI h5 h5.nx ro X kv ks m ds tm h i v) ks.length rfl ⟨0, .nilslice, rfl, rfl, Nat.zero_le _, by simp only [B, xB, F, reduceLT, reduceLeDiff, reduceEqDiff, reduceAdd, reduceMul, reduceSub, ↓reduceIte, eq_self, t0], by simp only [B, xB, F, reduceLT, reduceLeDiff, reduceEqDiff, reduceAdd, reduceMul, reduceSub, ↓reduceIte, eq_self, t3], by simp only [B, xB, F, reduceLT, reduceLeDiff, reduceEqDiff, reduceAdd, reduceMul, reduceSub, ↓reduceIte, eq_self], by simp only [B, xB, F, reduceLT, reduceLeDiff, reduceEqDiff, reduceAdd, reduceMul, reduceSub, ↓reduceIte, eq_self], Grows.none, Nat.le_refl _, fun _ _ => rfl, rfl⟩ (fun m ds tm h hI => ?_)
 clear t0 t3
 obtain ⟨i, v, rfl, rfl, ii, t0, t3, t5, t6, gr, nx, ol, gg⟩ := hI
 have gro := gr.one
 by_cases hi : i < ks.length
 ·have d1 : decide (i < ks.length) = true := decide_eq_true hi
  have lt1 : (i < ks.length) = True:= by simp [hi]
  obtain ⟨k, hk⟩ : ∃ k, ks[i]? = some k := ⟨_, List.getElem?_eq_getElem hi⟩
  obtain ⟨bk, ok, ck, rfl, hbk, hck⟩ := sk.place (by omega)
  have p0 := hck i (by unfold strs; rw [List.length_map]; exact hi)
  unfold strs at p0
  rw [List.getElem?_map, hk] at p0
  have p0 : cellAt h bk (ok + i) = some (.str k):= by rw [cellAt_of_get (ol bk hbk)]; exact p0
  have mph : MapK encS h ro (mS X) := mp.get (by omega) (ol ro ltr)
  have lk := lookup_k (P := P) u31a k9 z9a mph k false
  have lk : lookupA P 31 (.map ro) (.str k) false h = some (.str (valX k X)) := lk.trans (congrArg some (get_mS k X))
  have w1 : wrapF .i64 (Int.ofNat i + Int.ofNat 1) = Int.ofNat (i + 1) := i64_add (by omega)
  obtain ⟨h6, h6e⟩ : ∃ h6, h6 = h.newCells 66 [.str k, .str (valX k X)] := ⟨_, rfl⟩
  have o6 : Og h h6 []:= by rw [h6e]; exact (Og.refl _ _).new _ _
  have x6 : h6.nx = h.nx + 1:= by rw [h6e]; rfl
  have hrow : h6.row h.nx 0 2 = some [.str k, .str (valX k X)] := row_ok (o := 0) (cs := [.str k, .str (valX k X)]) (fun j hj => by rw [h6e, cellAt_new, Nat.zero_add, if_pos rfl]) (by simp)
  have g6 : Grows 2 h5.nx h6 v _ _ := gr.of_get o6.1.1 (fun c e => o6.1.2 c (gr.base e).2 (by simp))
  repeat' (first | ((with_reducible refine st1 ?_); (conv => whnf); (with_reducible refine ⟨?_⟩)) | ((with_reducible refine st_dw ?_ rfl rfl ?_ ?_); exact rfl; kernel_rfl; (conv => arg 5; whnf); (conv => arg 3; whnf)) | ((with_reducible refine retW_intro rfl ?_); (conv => arg 2; whnf)) | ((with_reducible first | refine iB ?_ ?_ | refine gWt ?_ ?_ | refine gWf ?_ ?_ | refine gXt ?_ ?_ | refine gXf ?_ ?_) <;> intro hb <;> (try simp only [hb])) | ((with_reducible show drawI _ _ _ _ _ _ _ _ _); first | ((with_reducible refine kI_rd ?_ ?_); exact rfl) | ((with_reducible apply kI_rg); exact rfl; exact rfl) | ((with_reducible refine kI_cv ?_ ?_ ?_); exact rfl; kernel_rfl) | ((with_reducible apply kI_al); exact rfl; exact rfl) | ((with_reducible refine kI_ex ?_ ?_ ?_ ?_ ?_); exact rfl; kernel_rfl; exact rfl) | ((with_reducible apply kI_eg); exact rfl; kernel_rfl; exact rfl) | ((with_reducible refine kI_nl ?_ ?_))) | ((with_reducible show eOk _ _ _ _ _ _); first | (exact eok_nil) | (refine ke_rd ?_ ?_ ?_; exact rfl) | (apply ke_rg; exact rfl; exact rfl) | (refine ke_cv ?_ ?_ ?_ ?_; exact rfl; kernel_rfl) | (apply ke_fl; exact rfl) | (apply ke_al; exact rfl; exact rfl)) | ((with_reducible refine freshIs_new ?_); kernel_rfl) | (simp only [B, xB, F, reduceLT, reduceLeDiff, reduceEqDiff, reduceAdd, reduceMul, reduceSub, ↓reduceIte, eq_self, t0, t3, t5, t6, hlen, gro, d1, lt1, Nat.mul_one, p0, @ex_lookup, lk, ← h6e, hrow]))
  refine exW_growsG (m := 1) (new := [.str k, .str (valX k X)]) g6 (by omega) (by omega) (by omega) rfl (by omega) (fun v7 h7 g7 x7 old7 blk7 gg7 => ?_)
  have g7o := g7.one
  repeat' (first | ((with_reducible refine st1 ?_); (conv => whnf); (with_reducible refine ⟨?_⟩)) | ((with_reducible refine st_dw ?_ rfl rfl ?_ ?_); exact rfl; kernel_rfl; (conv => arg 5; whnf); (conv => arg 3; whnf)) | ((with_reducible refine retW_intro rfl ?_); (conv => arg 2; whnf)) | ((with_reducible first | refine iB ?_ ?_ | refine gWt ?_ ?_ | refine gWf ?_ ?_ | refine gXt ?_ ?_ | refine gXf ?_ ?_) <;> intro hb <;> (try simp only [hb])) | ((with_reducible show drawI _ _ _ _ _ _ _ _ _); first | ((with_reducible refine kI_rd ?_ ?_); exact rfl) | ((with_reducible apply kI_rg); exact rfl; exact rfl) | ((with_reducible refine kI_cv ?_ ?_ ?_); exact rfl; kernel_rfl) | ((with_reducible apply kI_al); exact rfl; exact rfl) | ((with_reducible refine kI_ex ?_ ?_ ?_ ?_ ?_); exact rfl; kernel_rfl; exact rfl) | ((with_reducible apply kI_eg); exact rfl; kernel_rfl; exact rfl) | ((with_reducible refine kI_nl ?_ ?_))) | ((with_reducible show eOk _ _ _ _ _ _); first | (exact eok_nil) | (refine ke_rd ?_ ?_ ?_; exact rfl) | (apply ke_rg; exact rfl; exact rfl) | (refine ke_cv ?_ ?_ ?_ ?_; exact rfl; kernel_rfl) | (apply ke_fl; exact rfl) | (apply ke_al; exact rfl; exact rfl)) | ((with_reducible refine freshIs_new ?_); kernel_rfl) | (simp only [B, xB, F, reduceLT, reduceLeDiff, reduceEqDiff, reduceAdd, reduceMul, reduceSub, ↓reduceIte, eq_self, t6, g7o, w1]))
  have hbv : ∀ c, c < h5.nx → blkOf v ≠ some c := fun c hc e => by have := (gr.base e).1; omega
  have htk : (ks.take (i + 1)).map (fun k => (k, valX k X)) = (ks.take i).map (fun k => (k, valX k X)) ++ [(k, valX k X)] := by
   rw [List.take_add_one, hk, List.map_append]; rfl
  refine ⟨ks.length - (i + 1), by omega, i + 1, v7, rfl, rfl, by omega, by simp only [B, xB, F, reduceLT, reduceLeDiff, reduceEqDiff, reduceAdd, reduceMul, reduceSub, ↓reduceIte, eq_self, t0], by simp only [B, xB, F, reduceLT, reduceLeDiff, reduceEqDiff, reduceAdd, reduceMul, reduceSub, ↓reduceIte, eq_self, t3], by simp only [B, xB, F, reduceLT, reduceLeDiff, reduceEqDiff, reduceAdd, reduceMul, reduceSub, ↓reduceIte, eq_self], by simp only [B, xB, F, reduceLT, reduceLeDiff, reduceEqDiff, reduceAdd, reduceMul, reduceSub, ↓reduceIte, eq_self], by rw [htk, kps_app]; exact g7, by omega, fun c hc => ?_, ?_⟩
  ·rw [old7 c (by omega) (hbv c hc), o6.1.2 c (by omega) (by simp), ol c hc]
  ·rw [gg7, o6.2, gg]
 ·have d1 : decide (i < ks.length) = false := decide_eq_false hi
  obtain rfl : i = ks.length:= by omega
  rw [List.take_length] at gr
  repeat' (first | ((with_reducible refine st1 ?_); (conv => whnf); (with_reducible refine ⟨?_⟩)) | ((with_reducible refine retW_intro rfl ?_); (conv => arg 2; whnf)) | ((with_reducible first | refine iB ?_ ?_ | refine gWt ?_ ?_ | refine gWf ?_ ?_) <;> intro hb <;> (try simp only [hb])) | (simp only [B, xB, F, reduceLT, reduceLeDiff, reduceEqDiff, reduceAdd, reduceMul, reduceSub, ↓reduceIte, eq_self, t0, t3, t5, t6, hlen, gro, d1]))
  exact hQ _ _ ⟨⟨by omega, fun c hc _ => by rw [ol c (by omega)]; exact oo.1.2 c hc (by simp)⟩, gg.trans oo.2⟩ (gr.wk (by omega))
theorem risingC (h0 : H) (ro : Nat) (X : List Kp) (mp : MapK encS h0 ro (mS X)) (hz : X.length ≤ 100000) :
  PushC P (.enter 13 [.map ro] h0) fun u h' => Og h0 h' [] ∧ ∃ V : List Kp, V.Perm X ∧ Grows 2 h0.nx h' u X.length (kpsC ((sortS (V.map (·.1))).map fun k => (k, valX k X))) := by
 have ltr := mp.lt
 obtain ⟨h3, hrg, rg3, x3, o3, gg3⟩ := range_k (P := P) mp u31a
 have o03 : Og h0 h3 [] := ⟨o3, gg3⟩
 refine pushC_of_codeW (fn := Tryd.f13) (c := bodyC Tryd.f13) Tryd.func13 rfl ?_
 show codeW P 13 40 none _ _ _ _ _
 refine codeW_root ?_
 repeat' (first | ((with_reducible refine st1 ?_); (conv => whnf); (with_reducible refine ⟨?_⟩)) | ((with_reducible refine retW_intro rfl ?_); (conv => arg 2; whnf)) | ((with_reducible first | refine iB ?_ ?_ | refine gWt ?_ ?_ | refine gWf ?_ ?_) <;> intro hb <;> (try simp only [hb])) | (simp only [B, xB, F, reduceLT, reduceLeDiff, reduceEqDiff, reduceAdd, reduceMul, reduceSub, ↓reduceIte, eq_self, @ex_range, hrg]))
 refine st_loop (fun m ds tm h => ∃ V R v, RiI h0 ro h0.nx X m ds tm h V R v) X.length rfl ⟨[], X, .nilslice, rfl, rfl, List.Perm.refl _, by simp only [B, xB, F, reduceLT, reduceLeDiff, reduceEqDiff, reduceAdd, reduceMul, reduceSub, ↓reduceIte, eq_self], by simp only [B, xB, F, reduceLT, reduceLeDiff, reduceEqDiff, reduceAdd, reduceMul, reduceSub, ↓reduceIte, eq_self], by simp only [B, xB, F, reduceLT, reduceLeDiff, reduceEqDiff, reduceAdd, reduceMul, reduceSub, ↓reduceIte, eq_self], rg3, Grows.none, o03⟩ (fun m ds tm h hI => ?_)
 obtain ⟨V, R, v, rfl, rfl, pm, t0, t3, t8, rg, gr, oo⟩ := hI
 have xo := oo.1.1
 have gro := gr.one
 have hln : V.length + R.length = X.length:= by rw [← List.length_append]; exact pm.length_eq
 repeat' (first | (with_reducible refine stopC [0, 0, 0, 1, 0, 1, 1] ?_) | ((with_reducible refine st1 ?_); (conv => whnf); (with_reducible refine ⟨?_⟩)) | ((with_reducible refine retW_intro rfl ?_); (conv => arg 2; whnf)) | ((with_reducible first | refine iB ?_ ?_ | refine gWt ?_ ?_ | refine gWf ?_ ?_) <;> intro hb <;> (try simp only [hb])) | (simp only [B, xB, F, reduceLT, reduceLeDiff, reduceEqDiff, reduceAdd, reduceMul, reduceSub, ↓reduceIte, eq_self]))
 refine ⟨pk1 ?_⟩
 (conv => whnf)
 with_reducible refine ⟨?_⟩
 refine pick_k rfl rfl t8 rg (fun hR => ?_) (fun p R1 R2 h4 hR rg4 x4 o4 gg4 hen => ?_)
 ·obtain rfl : R = []:= by unfold mS at hR; exact List.map_eq_nil_iff.1 hR
  rw [List.append_nil] at pm
  repeat' (first | ((with_reducible refine st1 ?_); (conv => whnf); (with_reducible refine ⟨?_⟩)) | ((with_reducible refine retW_intro rfl ?_); (conv => arg 2; whnf)) | ((with_reducible first | refine iB ?_ ?_ | refine gWt ?_ ?_ | refine gWf ?_ ?_) <;> intro hb <;> (try simp only [hb])) | (simp only [B, xB, F, reduceLT, reduceLeDiff, reduceEqDiff, reduceAdd, reduceMul, reduceSub, ↓reduceIte, eq_self, t3, gro]))
  have hvl : V.length = X.length := pm.length_eq
  have hsl : (sortS (V.map (·.1))).length = X.length:= by rw [sortS_len, List.length_map, hvl]
  have fin : ∀ (tm2 : T AV) (h5 : H), Og h0 h5 [] → SliceAt h5 v (sortS (V.map (·.1))).length (strs (sortS (V.map (·.1)))) → tm2.get 0 = some (.map ro) → tm2.get 3 = some v → MapK encS h5 ro (mS X) →
    codeW P 13 40 none (codeI (bodyC Tryd.f13) [1, 1, 1, 1]) [] tm2 h5 (retK P Tryd.f13 fun u h' => Og h0 h' [] ∧ ∃ V : List Kp, V.Perm X ∧ Grows 2 h0.nx h' u X.length (kpsC ((sortS (V.map (·.1))).map fun k => (k, valX k X)))) := by
   intro tm2 h5 o5 s5 q0 q3 m5
   refine risingT h0 h5 ro X _ v m5 s5 o5 (by omega) tm2 q0 q3 _ (fun u h' o' g' => ⟨o', V, pm, ?_⟩)
   rw [hsl] at g'
   exact g'
  have mph : MapK encS h ro (mS X) := mp.keep oo.1 (by simp)
  generalize hcs : strs (V.map (·.1)) = cs at gr
  generalize hvn : V.length = vn at gr
  cases gr with
  | none =>
   have hV : V = [] := by
    unfold strs at hcs
    rw [List.map_map, List.map_eq_nil_iff] at hcs
    exact hcs
   subst hV
   refine ((strs0 h).call P).mono P ?_
   rintro u h5 ⟨rfl, rfl⟩
   repeat' (first | (with_reducible refine stopC [1, 1, 1, 1] ?_) | ((with_reducible refine st1 ?_); (conv => whnf); (with_reducible refine ⟨?_⟩)) | ((with_reducible refine retW_intro rfl ?_); (conv => arg 2; whnf)) | ((with_reducible first | refine iB ?_ ?_ | refine gWt ?_ ?_ | refine gWf ?_ ?_) <;> intro hb <;> (try simp only [hb])) | (simp only [B, xB, F, reduceLT, reduceLeDiff, reduceEqDiff, reduceAdd, reduceMul, reduceSub, ↓reduceIte, eq_self]))
   refine ⟨fin _ _ oo .none (by simp only [B, xB, F, reduceLT, reduceLeDiff, reduceEqDiff, reduceAdd, reduceMul, reduceSub, ↓reduceIte, eq_self, t0]) (by simp only [B, xB, F, reduceLT, reduceLeDiff, reduceEqDiff, reduceAdd, reduceMul, reduceSub, ↓reduceIte, eq_self, t3]) mph⟩
  | cell b n cs tt ty g1 g2 g3 g4 g5 =>
   have hwr : wrAt h b = true:= by unfold wrAt; rw [g4]
   have hce : CellsAt h b 0 ((V.map (·.1)).map .str) := fun j hj => by
    rw [Nat.zero_add]
    unfold cellAt
    rw [g4, show (V.map (·.1)).map AV.str = cs from hcs]
    exact g5 j
   have hVl : (V.map (·.1)).length = vn:= by simp; exact hvn
   have hcall := strsC h b (.opn 0) (V.map (·.1)) (by omega) hce hwr
   rw [hVl] at hcall
   refine (hcall.call P).mono P ?_
   rintro u h5 ⟨rfl, rfl⟩
   repeat' (first | (with_reducible refine stopC [1, 1, 1, 1] ?_) | ((with_reducible refine st1 ?_); (conv => whnf); (with_reducible refine ⟨?_⟩)) | ((with_reducible refine retW_intro rfl ?_); (conv => arg 2; whnf)) | ((with_reducible first | refine iB ?_ ?_ | refine gWt ?_ ?_ | refine gWf ?_ ?_) <;> intro hb <;> (try simp only [hb])) | (simp only [B, xB, F, reduceLT, reduceLeDiff, reduceEqDiff, reduceAdd, reduceMul, reduceSub, ↓reduceIte, eq_self]))
   have lro := mph.lt
   have o5 : ∀ c, c ≠ b → (h.sts b 0 ((sortS (V.map (·.1))).map .str)).t.get c = h.t.get c := fun c q => get_sts _ _ _ _ q
   refine ⟨fin _ _ ⟨⟨by rw [nx_sts]; omega, fun c hc _ => by rw [o5 c (by omega)]; exact oo.1.2 c hc (by simp)⟩, by rw [g_sts]; exact oo.2⟩ ?_ (by simp only [B, xB, F, reduceLT, reduceLeDiff, reduceEqDiff, reduceAdd, reduceMul, reduceSub, ↓reduceIte, eq_self, t0]) (by simp only [B, xB, F, reduceLT, reduceLeDiff, reduceEqDiff, reduceAdd, reduceMul, reduceSub, ↓reduceIte, eq_self, t3]) (mph.get (by rw [nx_sts]; exact Nat.le_refl _) (o5 ro (by omega)))⟩
   have e1 : vn = (sortS (V.map (·.1))).length:= by omega
   rw [← e1]
   refine .cell b 0 _ _ _ (by rw [nx_sts]; exact g2) (fun j hj => ?_)
   unfold strs at hj ⊢
   rw [cellAt_sts hwr, if_pos ⟨rfl, Nat.zero_le _, by omega⟩, Nat.zero_add, Nat.sub_zero]
 ·obtain ⟨S1, ⟨k, s⟩, S2, rfl, e1, rfl, e2⟩ := mS_split hR
  have hen4 := hen h4 rfl rfl
  have og4 : Og h h4 [h0.nx] := ⟨o4, gg4⟩
  have rl := rg.lt
  obtain ⟨h5, h5e⟩ : ∃ h5, h5 = h4.newCells 9 [.str k] := ⟨_, rfl⟩
  have o5 : Og h4 h5 []:= by rw [h5e]; exact (Og.refl _ _).new _ _
  have x5 : h5.nx = h4.nx + 1:= by rw [h5e]; rfl
  have hrow : h5.row h4.nx 0 1 = some [.str k] := row_ok (o := 0) (cs := [.str k]) (fun j hj => by rw [h5e, cellAt_new, Nat.zero_add, if_pos rfl]) (by simp)
  have g5 : Grows 1 (h0.nx + 1) h5 v _ _ := (gr.of_get (h' := h4) (by omega) (fun c e => o4.2 c (gr.base e).2 (by have := (gr.base e).1; simp; omega))).of_get o5.1.1 (fun c e => o5.1.2 c (by have := (gr.base e).2; omega) (by simp))
  have hlr : (S1 ++ (k, s) :: S2).length = (S1 ++ S2).length + 1:= by simp; omega
  repeat' (first | ((with_reducible refine st1 ?_); (conv => whnf); (with_reducible refine ⟨?_⟩)) | ((with_reducible refine retW_intro rfl ?_); (conv => arg 2; whnf)) | ((with_reducible first | refine iB ?_ ?_ | refine gWt ?_ ?_ | refine gWf ?_ ?_) <;> intro hb <;> (try simp only [hb])) | (simp only [B, xB, F, reduceLT, reduceLeDiff, reduceEqDiff, reduceAdd, reduceMul, reduceSub, ↓reduceIte, eq_self, t3, t8, gro, @ex_entry, hen4, ← h5e, hrow]))
  refine exW_growsG (m := 1) (new := [.str k]) g5 (by omega) (by omega) (by omega) rfl (by omega) (fun v7 h7 g7 x7 old7 blk7 gg7 => ?_)
  have g7o := g7.one
  repeat' (first | ((with_reducible refine st1 ?_); (conv => whnf); (with_reducible refine ⟨?_⟩)) | ((with_reducible refine retW_intro rfl ?_); (conv => arg 2; whnf)) | ((with_reducible first | refine iB ?_ ?_ | refine gWt ?_ ?_ | refine gWf ?_ ?_) <;> intro hb <;> (try simp only [hb])) | (simp only [B, xB, F, reduceLT, reduceLeDiff, reduceEqDiff, reduceAdd, reduceMul, reduceSub, ↓reduceIte, eq_self, g7o]))
  have hbv : ∀ c, c < h0.nx + 1 → blkOf v ≠ some c := fun c hc e => by have := (gr.base e).1; omega
  have rg7 : RngK encS h7 h0.nx ro _ _ _ := rg4.get (by omega) (by rw [old7 _ (by omega) (hbv _ (by omega)), o5.1.2 _ (by omega) (by simp)]) (by rw [old7 _ (by omega) (hbv _ (by omega)), o5.1.2 _ (by omega) (by simp)])
  refine ⟨(S1 ++ S2).length, by omega, V ++ [(k, s)], S1 ++ S2, v7, rfl, rfl, perm_step pm, by simp only [B, xB, F, reduceLT, reduceLeDiff, reduceEqDiff, reduceAdd, reduceMul, reduceSub, ↓reduceIte, eq_self, t0], by simp only [B, xB, F, reduceLT, reduceLeDiff, reduceEqDiff, reduceAdd, reduceMul, reduceSub, ↓reduceIte, eq_self], by simp only [B, xB, F, reduceLT, reduceLeDiff, reduceEqDiff, reduceAdd, reduceMul, reduceSub, ↓reduceIte, eq_self, t8], by rw [mS_app, mS_app, e1, e2]; exact rg7, ?_, ⟨⟨by omega, fun c hc _ => ?_⟩, by rw [gg7, o5.2, gg4, oo.2]⟩⟩
  ·rw [List.length_append, List.length_singleton, List.map_append]
   unfold strs at g7 ⊢
   rw [List.map_append]
   exact g7
  ·rw [old7 c (by omega) (hbv c (by omega)), o5.1.2 c (by omega) (by simp), o4.2 c (by omega) (by simp; omega)]; exact oo.1.2 c hc (by simp)
end
end Go.Proofs.YtllmfnedkhiomaaDoor.S

namespace Go.Proofs.YtllmfnedkhiomaaDoor.S
open Go Go.AX
noncomputable section
abbrev ltL (a b : List Nat) : Prop := listLtB a b = true
theorem ltN_iff : ∀ a b : List Nat, listLtB a b = true ↔ a < b
 | _, [] => by simp [listLtB]
 | [], y :: b => by simp [listLtB]
 | x :: a, y :: b => by
  have ih := ltN_iff a b
  simp only [listLtB]
  rw [List.cons_lt_cons_iff]
  cases h : Nat.blt x y with
  | true =>
   have : x < y := Nat.le_of_ble_eq_true h
   simp [this]
  | false =>
   have hn : ¬ x < y := fun e => by rw [show Nat.blt x y = true from Nat.ble_eq_true_of_le e] at h; cases h
   simp only
   cases h2 : Nat.beq x y with
   | true =>
    have e := Nat.eq_of_beq_eq_true h2
    subst e
    simp only [ih]
    simp
   | false =>
    have hne := Nat.ne_of_beq_eq_false h2
    simp [hn, hne]
theorem leN_le (a b : List Nat) : leN a b ↔ a ≤ b := by
 unfold leN
 rw [← List.not_lt, ← ltN_iff b a]
 simp
theorem insertN_sorted {s : List Nat} : ∀ {l : List (List Nat)}, l.Pairwise leN → (insertS s l).Pairwise leN
 | [], _ => by simp [insertS]
 | t :: l, h => by
  rw [List.pairwise_cons] at h
  simp only [insertS]
  cases hc : listLtB t s with
  | true =>
   simp only [List.pairwise_cons]
   refine ⟨fun x hx => ?_, insertN_sorted h.2⟩
   rcases mem_insertS.1 hx with rfl | hx
   ·rw [leN_le]; exact List.le_of_lt ((ltN_iff _ _).1 hc)
   ·exact h.1 x hx
  | false =>
   have hst : s ≤ t := (leN_le s t).1 hc
   simp only [List.pairwise_cons]
   refine ⟨fun x hx => ?_, h.1, h.2⟩
   rcases List.mem_cons.1 hx with rfl | hx
   ·exact hc
   ·rw [leN_le]; exact List.le_trans hst ((leN_le t x).1 (h.1 x hx))
theorem sortS_sorted : ∀ l : List (List Nat), (sortS l).Pairwise leN
 | [] => List.Pairwise.nil
 | s :: l => insertN_sorted (sortS_sorted l)
theorem sort_eq {ks ys : List (List Nat)} (hp : ks.Perm ys) (hy : ys.Pairwise ltL) : sortS ks = ys := by
 refine List.Perm.eq_of_pairwise (le := leN) (fun a b _ _ h1 h2 => List.le_antisymm ((leN_le a b).1 h1) ((leN_le b a).1 h2)) (sortS_sorted ks) (hy.imp fun {a b} h => ?_) ((sortS_perm ks).trans hp)
 rw [leN_le]; exact List.le_of_lt ((ltN_iff a b).1 h)
theorem ltL_ne {a b : List Nat} (h : ltL a b) : a ≠ b := fun e => by
 subst e
 exact absurd ((ltN_iff a a).1 h) (List.lt_irrefl a)
theorem valX_mem {p : Kp} : ∀ {X : List Kp}, (X.map (·.1)).Nodup → p ∈ X → valX p.1 X = p.2
 | [], _, h => by cases h
 | q :: X, nd, h => by
  rw [List.map_cons, List.nodup_cons] at nd
  unfold valX
  rw [List.find?_cons]
  rcases List.mem_cons.1 h with rfl | h
  ·simp
  ·have hne : p.1 ≠ q.1 := fun e => nd.1 (by rw [← e]; exact List.mem_map_of_mem h)
   simp only [hne, decide_false]
   exact valX_mem nd.2 h
theorem nodup_of_lt {l : List (List Nat)} (h : l.Pairwise ltL) : l.Nodup := h.imp fun {a b} h => ltL_ne h
theorem rising_eq {X V Y : List Kp} (hV : V.Perm X) (hX : X.Perm Y) (hY : (Y.map (·.1)).Pairwise ltL) : (sortS (V.map (·.1))).map (fun k => (k, valX k X)) = Y := by
 rw [sort_eq ((hV.trans hX).map _) hY, List.map_map]
 have nd : (X.map (·.1)).Nodup := (hX.map (·.1)).nodup_iff.2 (nodup_of_lt hY)
 have : ∀ p, p ∈ Y → ((fun k => (k, valX k X)) ∘ fun x : Kp => x.1) p = id p := fun p hp => by
  simp only [Function.comp, id]
  rw [valX_mem nd (hX.mem_iff.2 hp)]
 rw [List.map_congr_left this, List.map_id]
theorem lt_pre : ∀ (p a b : List Nat), listLtB (p ++ a) (p ++ b) = listLtB a b
 | [], a, b => rfl
 | x :: p, a, b => by
  have : Nat.blt x x = false:= by rw [← Bool.not_eq_true, Nat.blt_eq]; omega
  show listLtB (x :: (p ++ a)) (x :: (p ++ b)) = _
  simp only [listLtB, this, Nat.beq_refl]
  exact lt_pre p a b
theorem lt_head {x y : Nat} (h : x < y) (a b : List Nat) : listLtB (x :: a) (y :: b) = true := by
 have : Nat.blt x y = true:= by rw [Nat.blt_eq]; exact h
 simp only [listLtB, this]
theorem hexD_mono {m n : Nat} (h : m < n) (hn : n < 16) : hexD m < hexD n:= by unfold hexD; split <;> split <;> omega
theorem hexF_lt : ∀ (d m n : Nat) (a b : List Nat), m < n → n < 16 ^ d → ltL (hexF m d ++ a) (hexF n d ++ b)
 | 0, m, n, a, b, h, hn => by simp at hn; omega
 | d + 1, m, n, a, b, h, hn => by
  have e : ∀ k c, hexF k (d + 1) ++ c = hexF (k / 16) d ++ (hexD (k % 16) :: c) := fun k c => by
   show (hexF (k / 16) d ++ [hexD (k % 16)]) ++ c = _
   rw [List.append_assoc]; rfl
  rw [e, e]
  rcases Nat.lt_or_ge (m / 16) (n / 16) with q | q
  ·exact hexF_lt d (m / 16) (n / 16) _ _ q (by rw [Nat.pow_succ] at hn; omega)
  ·have q2 : m / 16 = n / 16 := by
    have : m / 16 ≤ n / 16 := Nat.div_le_div_right (by omega)
    omega
   unfold ltL
   rw [q2, lt_pre]
   exact lt_head (hexD_mono (by omega) (Nat.mod_lt _ (by omega))) _ _
theorem key_c {c d : Nat} (h : c < d) (hd : d < 281474976710656) (i j : Nat) : ltL (keyP c i) (keyP d j) := by
 unfold keyP ltL
 rw [← hexF_P 12 c (by omega) (by omega), ← hexF_P 12 d (by simpa using hd) (by omega), List.append_assoc, List.append_assoc]
 show listLtB ([115] ++ _) ([115] ++ _) = true
 rw [lt_pre]
 exact hexF_lt 12 c d _ _ h (by simpa using hd)
theorem key_i (c : Nat) {i j : Nat} (h : i < j) (hj : j < 256) : ltL (keyP c i) (keyP c j) := by
 unfold keyP ltL
 rw [← hexF_P 2 i (by omega) (by omega), ← hexF_P 2 j (by omega) (by omega)]
 show listLtB ([115] ++ _) ([115] ++ _) = true
 rw [lt_pre]
 show listLtB ((hexP c 12 ++ [45]) ++ hexF i 2) ((hexP c 12 ++ [45]) ++ hexF j 2) = true
 rw [lt_pre]
 have := hexF_lt 2 i j [] [] h (by omega)
 simpa using this
theorem key_ne (c : Nat) {i j : Nat} (h : i ≠ j) (hi : i < 256) (hj : j < 256) : keyP c i ≠ keyP c j := by
 rcases Nat.lt_or_gt_of_ne h with q | q
 ·exact ltL_ne (key_i c q hj)
 ·exact (ltL_ne (key_i c q hi)).symm
theorem put_mS {k v : List Nat} : ∀ {X : List Kp}, k ∉ X.map (·.1) → mapPut k (.str v) (mS X) = mS (X ++ [(k, v)])
 | [], _ => rfl
 | (a, w) :: X, h => by
  simp only [List.map_cons, List.mem_cons, not_or] at h
  show mapPut k (.str v) ((a, .str w) :: mS X) = (a, .str w) :: mS (X ++ [(k, v)])
  unfold mapPut
  rw [if_neg h.1, put_mS h.2]
theorem del_mS {k : List Nat} : ∀ {X : List Kp}, k ∉ X.map (·.1) → mapDel k (mS X) = mS X
 | [], _ => rfl
 | (a, w) :: X, h => by
  simp only [List.map_cons, List.mem_cons, not_or] at h
  show mapDel k ((a, .str w) :: mS X) = (a, .str w) :: mS X
  unfold mapDel
  rw [if_neg h.1, del_mS h.2]
theorem del_hd {k w : List Nat} (X : List Kp) : mapDel k (mS ((k, w) :: X)) = mS X := by
 show mapDel k ((k, .str w) :: mS X) = mS X
 unfold mapDel
 rw [if_pos rfl]
theorem outF_mS : ∀ (ps X : List Kp), ((X ++ ps).map (·.1)).Nodup → outF (mS X) ps = mS (X ++ ps)
 | [], X, _ => by rw [List.append_nil]; rfl
 | p :: ps, X, nd => by
  have h1 : p.1 ∉ X.map (·.1) := by
   rw [List.map_append, List.nodup_append] at nd
   exact fun q => nd.2.2 p.1 q p.1 (by simp) rfl
  show outF (mapPut p.1 (.str p.2) (mS X)) ps = _
  rw [put_mS h1]
  have := outF_mS ps (X ++ [p]) (by rw [List.append_assoc]; exact nd)
  rw [List.append_assoc] at this
  exact this
def restP (c i m : Nat) : List Kp := (List.range' i (m - i)).map fun j => (keyP c j, [])
def newP (c : Nat) (s : List Nat) (i : Nat) : List Kp := (List.range i).map fun j => (keyP c j, pieceP s j)
theorem prs_new (c n : Nat) (s : List Nat) : prs (c, n, s) = newP c (textP n s) (cntP (textP n s)) := rfl
theorem rest_in {c i m j : Nat} (h : j < i) (hm : m ≤ 256) : keyP c j ∉ (restP c i m).map (·.1) := by
 unfold restP
 rw [List.map_map]
 intro q
 obtain ⟨x, hx, e⟩ := List.mem_map.1 q
 rw [List.mem_range'_1] at hx
 exact key_ne c (show x ≠ j by omega) (by omega) (by omega) e
theorem new_in {c i j : Nat} {s : List Nat} (h : i ≤ j) (hj : j < 256) : keyP c j ∉ (newP c s i).map (·.1) := by
 unfold newP
 rw [List.map_map]
 intro q
 obtain ⟨x, hx, e⟩ := List.mem_map.1 q
 rw [List.mem_range] at hx
 exact key_ne c (show x ≠ j by omega) (by omega) (by omega) e
theorem outA_eq (c : Nat) : ∀ m, m ≤ 256 → outA c m = mS (restP c 0 m)
 | 0, _ => rfl
 | m + 1, h => by
  unfold outA
  rw [outA_eq c m (by omega), put_mS]
  ·congr 1
   unfold restP
   rw [Nat.sub_zero, Nat.sub_zero, List.range'_concat, List.map_append]
   simp
  ·unfold restP
   rw [List.map_map]
   intro q
   obtain ⟨x, hx, e⟩ := List.mem_map.1 q
   rw [List.mem_range'_1] at hx
   exact key_ne c (show x ≠ m by omega) (by omega) (by omega) e
theorem outB_eq (c m : Nat) (s : List Nat) (hm : m ≤ 256) : ∀ i, i ≤ 256 → outB c s (mS (restP c 0 m)) i = mS (restP c i m ++ newP c s i)
 | 0, _ => by unfold outB newP; simp
 | i + 1, h => by
  unfold outB
  rw [outB_eq c m s hm i (by omega)]
  have e1 : mapDel (keyP c i) (mS (restP c i m ++ newP c s i)) = mS (restP c (i + 1) m ++ newP c s i) := by
   by_cases q : i < m
   ·have : restP c i m = (keyP c i, []) :: restP c (i + 1) m := by
     unfold restP
     rw [show m - i = (m - (i + 1)) + 1 by omega, List.range'_succ]; rfl
    rw [this]
    exact del_hd _
   ·have e2 : restP c i m = []:= by unfold restP; rw [show m - i = 0 by omega]; rfl
    have e3 : restP c (i + 1) m = []:= by unfold restP; rw [show m - (i + 1) = 0 by omega]; rfl
    rw [e2, e3, List.nil_append]
    exact del_mS (new_in (Nat.le_refl _) (by omega))
  rw [e1, put_mS]
  ·rw [List.append_assoc]
   congr 2
   unfold newP
   rw [List.range_succ, List.map_append]; rfl
  ·rw [List.map_append, List.mem_append]
   rintro (q | q)
   ·exact rest_in (Nat.lt_succ_self i) hm q
   ·exact new_in (Nat.le_refl _) (by omega) q
theorem outR_eq (c n m : Nat) (s : List Nat) (old : List Kp) (hold : old.map (·.1) = (List.range m).map (keyP c)) : outR old (prs (c, n, s)) = newP c (textP n s) (cntP (textP n s)) ++ restP c (cntP (textP n s)) m := by
 unfold outR
 rw [prs_new]
 congr 1
 have hl : (newP c (textP n s) (cntP (textP n s))).length = cntP (textP n s):= by unfold newP; simp
 rw [hl]
 have e : (old.drop (cntP (textP n s))).map (fun p => (p.1, ([] : List Nat))) = ((old.map (·.1)).drop (cntP (textP n s))).map fun k => (k, []) := by
  rw [← List.map_drop, List.map_map]; rfl
 rw [e, hold, ← List.map_drop, List.map_map]
 unfold restP
 congr 1
 rw [List.range_eq_range', List.drop_range']; simp
theorem outR_keys (c n m : Nat) (s : List Nat) (hn : cntP (textP n s) ≤ 256) (hm : m ≤ 256) : ((newP c (textP n s) (cntP (textP n s)) ++ restP c (cntP (textP n s)) m).map (·.1)).Pairwise ltL := by
 have hkeys : (newP c (textP n s) (cntP (textP n s)) ++ restP c (cntP (textP n s)) m).map (·.1) = (List.range' 0 (max (cntP (textP n s)) m)).map (keyP c) := by
  unfold newP restP
  rw [List.map_append, List.map_map, List.map_map, List.range_eq_range']
  have : max (cntP (textP n s)) m = cntP (textP n s) + (m - cntP (textP n s)):= by omega
  rw [this, ← List.range'_append_1, List.map_append, Nat.zero_add]; rfl
 rw [hkeys, List.pairwise_map]
 have hp : (List.range' 0 (max (cntP (textP n s)) m)).Pairwise (· < ·) := List.pairwise_lt_range'
 refine hp.imp_of_mem fun {a b} ha hb h => ?_
 rw [List.mem_range'_1] at hb
 exact key_i c h (by omega)
end
end Go.Proofs.YtllmfnedkhiomaaDoor.S


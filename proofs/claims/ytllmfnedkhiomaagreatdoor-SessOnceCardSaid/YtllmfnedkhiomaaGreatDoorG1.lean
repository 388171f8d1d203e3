/-
  sess: what a law asks first: walked.
-/
import Derived.Test.YtllmfnedkhiomaaGreatDoorAxI
import Derived.Test.YtllmfnedkhiomaaGreatDoorG0
import Derived.Test.YtllmfnedkhiomaaGreatDoorAxH
import Derived.Test.YtllmfnedkhiomaaGreatDoorAxF
import Derived.Shelf.SortM.Plain
import Derived.Shelf.SortM.SortNone
import Derived.Shelf.SlIter.Nil
import Derived.Ground.GgzProg
import Derived.Ground.SlgmProg
import Derived.Test.YtllmfnedkhiomaaGreatDoorProg
import Derived.Laws.IdiomCopy
import Derived.ProofKit
set_option linter.unusedSimpArgs false
set_option linter.unusedVariables false
set_option linter.unusedSectionVars false
open Nat (reduceLT reduceLeDiff reduceEqDiff reduceAdd reduceMul reduceSub)
namespace Go.Proofs.YtllmfnedkhiomaaGreatDoor.S
open Go Go.AX
noncomputable section
set_option maxRecDepth 100000
theorem Og.put {h h1 h2 : H} {r : Nat} (a : Og h h1 []) (o : Og h1 h2 [r]) (hr : h.nx ≤ r) : Og h h2 [] :=
 ⟨⟨Nat.le_trans a.1.1 o.1.1, fun c hc _ => (o.1.2 c (Nat.lt_of_lt_of_le hc a.1.1) (by simp; omega)).trans (a.1.2 c hc (by simp))⟩, o.2.trans a.2⟩
abbrev kHi : List Nat := [115, 48, 48, 48, 48, 48, 48, 48, 48, 48, 48, 48, 55, 45, 48, 48]
theorem key70 : keyP 7 0 = kHi:= by simp [keyP, hexP, hexL_lt, hexD]
theorem text1 : textP 1 [104, 105] = [1, 2, 104, 105]:= by simp [textP, encN]
theorem outHi : outB 7 [1, 2, 104, 105] [] 1 = [(kHi, .str [1, 2, 104, 105])] := by
 unfold outB
 rw [key70]
 rfl
theorem worksC (h : H) (gl : Gl h) : PushC P (.enter 10 [] h) (SaysG h (.bool true)) := by
 have e1 : bytesOf { data := #[104, 105] } = [104, 105] := rfl
 have gx := gl.x
 refine pushC_of_codeW (fn := Tryz.f10) (c := bodyC Tryz.f10) Tryz.func10 rfl ?_
 show codeW P 10 64 none _ _ _ _ _
 refine codeW_root ?_
 repeat' (first | ((with_reducible refine st1 ?_); (conv => whnf); (with_reducible refine ⟨?_⟩)) | ((with_reducible refine retW_intro rfl ?_); (conv => arg 2; whnf)) | ((with_reducible first | refine iB ?_ ?_ | refine gWt ?_ ?_ | refine gWf ?_ ?_) <;> intro hb <;> (try simp only [hb])) | (simp only [B, F, reduceLT, reduceLeDiff, reduceEqDiff, reduceAdd, reduceMul, reduceSub, ↓reduceIte, eq_self]))
 refine ((newC h).call P).mono P ?_
 rintro v h1 ⟨rfl, o1, k1⟩
 have x1 := k1.lt
 have s1 : seenE [] 7 1 = ([], false, 0) := rfl
 repeat' (first | ((with_reducible refine st1 ?_); (conv => whnf); (with_reducible refine ⟨?_⟩)) | ((with_reducible refine retW_intro rfl ?_); (conv => arg 2; whnf)) | ((with_reducible first | refine iB ?_ ?_ | refine gWt ?_ ?_ | refine gWf ?_ ?_) <;> intro hb <;> (try simp only [hb])) | (simp only [B, F, reduceLT, reduceLeDiff, reduceEqDiff, reduceAdd, reduceMul, reduceSub, ↓reduceIte, eq_self]))
 refine ((seenC h1 _ _ [] k1 7 1 (fun n s q => by cases q)).call P).mono P ?_
 rintro v h2 ⟨rfl, o2⟩
 have o12 := o1.t o2
 have k2 := k1.keep o2 (by simp) (by simp)
 rw [s1]
 unfold seenV
 repeat' (first | ((with_reducible refine st1 ?_); (conv => whnf); (with_reducible refine ⟨?_⟩)) | ((with_reducible refine retW_intro rfl ?_); (conv => arg 2; whnf)) | ((with_reducible first | refine iB ?_ ?_ | refine gWt ?_ ?_ | refine gWf ?_ ?_) <;> intro hb <;> (try simp only [hb])) | (simp only [B, F, reduceLT, reduceLeDiff, reduceEqDiff, reduceAdd, reduceMul, reduceSub, ↓reduceIte, eq_self, e1]))
 refine ((doneOk h2 _ _ [] k2 (gl.keep o12 (by simp)) 7 1 [104, 105] (fun n s q => by cases q) (by decide) (by simp) (by decide) [] s1).call P).mono P ?_
 rintro v h3 ⟨ro, rfl, og3, k3, ge3, m3⟩
 have o13 := o12.put og3 (Nat.le_refl _)
 have m3 : MapK encS h3 ro [(kHi, .str [1, 2, 104, 105])] := by
  rw [text1] at m3
  have : cntP [1, 2, 104, 105] = 1 := rfl
  rw [this, show getB 7 [] = none from rfl] at m3
  simp only [outHi] at m3
  exact m3
 have s3 : seenE (putB 7 (1, [104, 105]) []) 7 1 = ([104, 105], true, 0) := rfl
 repeat' (first | ((with_reducible refine st1 ?_); (conv => whnf); (with_reducible refine ⟨?_⟩)) | ((with_reducible refine retW_intro rfl ?_); (conv => arg 2; whnf)) | ((with_reducible first | refine iB ?_ ?_ | refine gWt ?_ ?_ | refine gWf ?_ ?_) <;> intro hb <;> (try simp only [hb])) | (simp only [B, F, reduceLT, reduceLeDiff, reduceEqDiff, reduceAdd, reduceMul, reduceSub, ↓reduceIte, eq_self]))
 refine ((seenC h3 _ _ _ k3 7 1 (fun n s q => by cases q; omega)).call P).mono P ?_
 rintro v h4 ⟨rfl, o4⟩
 have k4 := k3.keep o4 (by simp) (by simp)
 have m4 := m3.keep o4.1 (by simp)
 have hl := len_k (P := P) u31a m4
 have z9 : zeroA P 9 = some (.str []):= by kernel_rfl
 have lk := lookup_k (P := P) u31a k9 z9 m4 kHi false
 have lk : lookupA P 25 (.map ro) (.str kHi) false h4 = some (.str [1, 2, 104, 105]) := lk
 rw [s3]
 unfold seenV
 have e8 : bytesOf { data := #[1, 2, 104, 105] } = [1, 2, 104, 105] := rfl
 have e9 : bytesOf { data := #[115, 48, 48, 48, 48, 48, 48, 48, 48, 48, 48, 48, 55, 45, 48, 48] } = kHi := rfl
 repeat' (first | ((with_reducible refine st1 ?_); (conv => whnf); (with_reducible refine ⟨?_⟩)) | ((with_reducible refine retW_intro rfl ?_); (conv => arg 2; whnf)) | ((with_reducible first | refine iB ?_ ?_ | refine gWt ?_ ?_ | refine gWf ?_ ?_) <;> intro hb <;> (try simp only [hb])) | (simp only [B, F, reduceLT, reduceLeDiff, reduceEqDiff, reduceAdd, reduceMul, reduceSub, ↓reduceIte, eq_self, hl, @ex_lookup, e9, lk, e8, e1, Bool.not_false]))
 refine ((lenC h4 _ _ _ k4).call P).mono P ?_
 rintro v h5 ⟨rfl, o5⟩
 have l1 : (putB 7 (1, [104, 105]) []).length = 1 := rfl
 repeat' (first | ((with_reducible refine st1 ?_); (conv => whnf); (with_reducible refine ⟨?_⟩)) | ((with_reducible refine retW_intro rfl ?_); (conv => arg 2; whnf)) | ((with_reducible first | refine iB ?_ ?_ | refine gWt ?_ ?_ | refine gWf ?_ ?_) <;> intro hb <;> (try simp only [hb])) | (simp only [B, F, reduceLT, reduceLeDiff, reduceEqDiff, reduceAdd, reduceMul, reduceSub, ↓reduceIte, eq_self, l1]))
 exact ⟨rfl, (o13.t o4).t o5⟩
end
end Go.Proofs.YtllmfnedkhiomaaGreatDoor.S

namespace Go.AX
noncomputable section
open Go.RowKit
section
variable {P : Program} {size : Nat}
theorem appendN_0 {h : H} {e size base : Nat} {l0 : AV} {n0 : Nat} {cs0 : List AV} (hg : Grows size base h l0 n0 cs0) : appendN e size l0 0 [] h = .val l0 h := by
 unfold appendN
 rw [Nat.zero_mul]
 cases hg with
 | none => rfl
 | cell => rfl
theorem put_g {h h' : H} {b o : Nat} {l : List AV} (e : h.put b o l = some h') : h'.g = h.g := by
 unfold H.put at e
 repeat' (split at e)
 all_goals (first | (cases e; done) | (cases e; rfl))
theorem appendN_g {e size n : Nat} {s : AV} {new : List AV} {h h' : H} {v : AV} (hx : appendN e size s n new h = .val v h') : h'.g = h.g := by
 unfold appendN at hx
 repeat' (split at hx)
 all_goals (first | (cases hx; done) | (cases hx; rfl) | (rename_i hp; cases hx; exact put_g hp))
theorem Grows.wk {size a b : Nat} {h : H} {v : AV} {n : Nat} {cs : List AV} (hg : Grows size b h v n cs) (hab : a ≤ b) : Grows size a h v n cs := by
 cases hg with
 | none => exact .none
 | cell c n cs t ty h1 h2 h3 h4 h5 => exact .cell c n cs t ty (Nat.le_trans hab h1) h2 h3 h4 h5
theorem exW_growsG {elem : TypeId} {size base : Nat} {h : H} {v : AV} {n m : Nat} {cs new : List AV} {K : AV → H → Prop} (hg : Grows size base h v n cs) (hb : base ≤ h.nx) (hm : 0 < m) (hs : 0 < size) (hl : new.length = m * size) (hsm : n + m ≤ 4194304)
  (hk : ∀ v' h', Grows size base h' v' (n + m) (cs ++ new) → h'.nx = h.nx + 1 → (∀ b, b < h.nx → blkOf v ≠ some b → h'.t.get b = h.t.get b) → blkOf v' = some h.nx → h'.g = h.g → K v' h') : exW P (appendN elem size v m new h) K := by
 obtain ⟨v', h', e, a, b, c, d⟩ := appendN_grows (elem := elem) hg hb hm hs hl hsm
 have g := appendN_g e
 rw [e]; exact hk v' h' a b c d g
@[reducible] def AppTo (size base : Nat) (h : H) (l0 : AV) (n : Nat) (cs : List AV) (K : AV → H → Prop) : Prop :=
 ∀ v' h', Grows size base h' v' n cs → h.nx ≤ h'.nx → (∀ b, b < h.nx → blkOf l0 ≠ some b → h'.t.get b = h.t.get b) → (∀ b, blkOf v' = some b → blkOf l0 = some b ∨ h.nx ≤ b) → h'.g = h.g → K v' h'
theorem ex_sl_lh {tm : T AV} {h : H} (t : TypeId) (x a b : Operand) : execA P tm h (.slice t x (some a) (some b) none) = ob (evalA tm x) fun v => ob (evalA tm a) fun l => ob (evalA tm b) fun r => ob (sliceA P t v (some l) (some r) none) fun v => .val v h := by
 simp only [execA, evalO]
 cases evalA tm x with
 | none => cases evalA tm a <;> cases evalA tm b <;> rfl
 | some v => cases evalA tm a with
  | none => cases evalA tm b <;> rfl
  | some l => cases evalA tm b with
   | none => rfl
   | some r => show optV h (sliceA P t v (some l) (some r) none) = ob (sliceA P t v (some l) (some r) none) _; cases sliceA P t v (some l) (some r) none <;> rfl
theorem Grows.wr {base : Nat} {h : H} {b n : Nat} {cap : Cap} {cs : List AV} (hg : Grows size base h (.slice b 0 n cap) n cs) : wrAt h b = true := by
 cases hg with
 | cell b n cs t' ty h1 h2 h3 h4 h5 => unfold wrAt; rw [h4]
end
end
end Go.AX

namespace Go.AX
noncomputable section
open Go.RowKit
section
variable {κ : Type} {enc : κ → AV}
structure RngK (enc : κ → AV) (h : H) (it r : Nat) (L V R : List (κ × AV)) : Prop where
 has : ∃ es clock seen, h.t.get r = some (.map es clock) ∧ es.map entP = L.map (encP enc) ∧ (es.map (·.2.2)).Nodup ∧ (∀ e, e ∈ es → e.2.2 < clock) ∧ h.t.get it = some (.mapIter (some r) clock seen clock) ∧
  (es.filter fun e => notIn seen e.2.2).map entP = R.map (encP enc)
 pm : (V ++ R).Perm L
 lt : it < h.nx
 ltr : r < h.nx
theorem RngK.get {h h' : H} {it r : Nat} {L V R : List (κ × AV)} (k : RngK enc h it r L V R) (hx : h.nx ≤ h'.nx) (e1 : h'.t.get it = h.t.get it) (e2 : h'.t.get r = h.t.get r) : RngK enc h' it r L V R :=
 ⟨by obtain ⟨es, c, s, a, b, c', d, e, f⟩ := k.has; exact ⟨es, c, s, by rw [e2]; exact a, b, c', d, by rw [e1]; exact e, f⟩, k.pm, Nat.lt_of_lt_of_le k.lt hx, Nat.lt_of_lt_of_le k.ltr hx⟩
theorem RngK.keep {h h' : H} {it r : Nat} {L V R : List (κ × AV)} (k : RngK enc h it r L V R) {S : List Nat} (o : Only h h' S) (h1 : it ∉ S) (h2 : r ∉ S) : RngK enc h' it r L V R := k.get o.1 (o.2 it k.lt h1) (o.2 r k.ltr h2)
theorem RngK.map [DecidableEq κ] {h : H} {it r : Nat} {L V R : List (κ × AV)} (k : RngK enc h it r L V R) : MapK enc h r L := by
 obtain ⟨es, c, s, a, b, c', d, e, f⟩ := k.has
 exact ⟨⟨es, c, a, b, c', d⟩, k.ltr⟩
variable {P : Program}
theorem range_k {h : H} {r : Nat} {L : List (κ × AV)} [DecidableEq κ] (m : MapK enc h r L) {t kt elem : TypeId} (ht : P.underlying t = some (.map kt elem)) :
  ∃ h', rangeA P t (.map r) h = .val (.ptr h.nx 0) h' ∧ RngK enc h' h.nx r L [] L ∧ h'.nx = h.nx + 1 ∧ Only h h' [] ∧ h'.g = h.g := by
 obtain ⟨es, c, h1, h2, h3, h4⟩ := m.has
 have hlt := m.lt
 have ho : Only h (h.alloc (.mapIter (some r) c [] c)) [] := ⟨Nat.le_succ _, fun b hb _ => by
  show (h.t.set h.nx _).get b = _
  rw [T.get_set, if_neg (by omega)]⟩
 refine ⟨h.alloc (.mapIter (some r) c [] c), by unfold rangeA; simp only [ht, h1], ⟨⟨es, c, [], by rw [ho.2 r hlt (by simp)]; exact h1, h2, h3, h4, ?_, ?_⟩, by simp, Nat.lt_succ_self _, Nat.lt_succ_of_lt hlt⟩, rfl, ho, rfl⟩
 ·show (h.t.set h.nx _).get h.nx = _
  rw [T.get_set, if_pos rfl]
 ·rw [← h2]
  congr 1
  exact List.filter_eq_self.2 fun e _ => rfl
theorem beqF (x b : Nat) : Nat.beq x b = decide (x = b) := by
 cases q : Nat.beq x b with
 | true => have := Nat.eq_of_beq_eq_true q; simp [this]
 | false => have := Nat.ne_of_beq_eq_false q; simp [this]
theorem notIn_app (s : List Nat) (x b : Nat) : notIn (s ++ [b]) x = (notIn s x && !Nat.beq x b) := by
 rw [notIn_eq, notIn_eq, beqF, Bool.eq_iff_iff]
 simp [List.mem_append, not_or]
theorem findStamp_at : ∀ {es : List (AV × AV × Nat)} {e : AV × AV × Nat}, e ∈ es → (es.map (·.2.2)).Nodup → findStamp e.2.2 es = some (.tuple [e.1, e.2.1])
 | [], e, he, _ => by cases he
 | a :: es, e, he, hn => by
  rw [List.map_cons, List.nodup_cons] at hn
  unfold findStamp
  rcases List.mem_cons.1 he with rfl | he
  ·rw [Nat.beq_refl]
  ·have : Nat.beq a.2.2 e.2.2 = false := by
    cases q : Nat.beq a.2.2 e.2.2 with
    | false => rfl
    | true =>
     have := Nat.eq_of_beq_eq_true q
     exact absurd (by rw [this]; exact List.mem_map_of_mem he) hn.1
   rw [this]
   exact findStamp_at he hn.2
theorem lastOf_app : ∀ (l : List Nat) (b : Nat), lastOf (l ++ [b]) = some b
 | [], b => rfl
 | x :: l, b => by
  have ih := lastOf_app l b
  cases l with
  | nil => rfl
  | cons y l => exact ih
theorem next_k {h : H} {it r : Nat} {L V R : List (κ × AV)} (k : RngK enc h it r L V R) :
  ∃ C, nextL (.ptr it 0) h = some C ∧ ∀ y, y ∈ C → (R = [] ∧ y = (.tuple [.bool false], h)) ∨
   ∃ p R1 R2, R = R1 ++ p :: R2 ∧ y.1 = .tuple [.bool true, enc p.1, p.2] ∧ RngK enc y.2 it r L (V ++ [p]) (R1 ++ R2) ∧ y.2.nx = h.nx ∧ Only h y.2 [it] ∧ y.2.g = h.g ∧
    ∀ h2, h2.t.get it = y.2.t.get it → h2.t.get r = y.2.t.get r → entryA (.ptr it 0) h2 = some (.tuple [enc p.1, p.2]) := by
 obtain ⟨es, clock, seen, h1, h2, h3, h4, h5, h6⟩ := k.has
 have hne : r ≠ it := by
  intro e; subst e; rw [h1] at h5; cases h5
 have hall : ((es.all fun e => Nat.blt e.2.2 clock) && Nat.ble clock clock) = true := by
  rw [Bool.and_eq_true]
  refine ⟨List.all_eq_true.2 fun e he => ?_, Nat.ble_self_eq_true _⟩
  rw [Nat.blt_eq]; exact h4 e he
 obtain ⟨F, hF⟩ : ∃ F, F = es.filter fun e => notIn seen e.2.2 := ⟨_, rfl⟩
 rw [← hF] at h6
 cases hc : F with
 | nil =>
  refine ⟨[(.tuple [.bool false], h)], ?_, fun y hy => .inl ⟨?_, List.mem_singleton.1 hy⟩⟩
  ·unfold nextL
   simp only [h5, h1, hall, ← hF, hc]
  ·rw [hc] at h6; exact List.map_eq_nil_iff.1 h6.symm
 | cons u us =>
  refine ⟨F.map fun e => (.tuple [.bool true, e.1, e.2.1], { h with t := h.t.set it (some (.mapIter (some r) clock (seen ++ [e.2.2]) clock)) }), ?_, fun y hy => .inr ?_⟩
  ·unfold nextL
   simp only [h5, h1, hall, ← hF, hc]
  ·obtain ⟨e, he, rfl⟩ := List.mem_map.1 hy
   obtain ⟨F1, F2, hF12⟩ := List.append_of_mem he
   have hees : e ∈ es:= by rw [hF] at he; exact (List.mem_filter.1 he).1
   have hsub : (F.map (·.2.2)).Nodup:= by rw [hF]; exact h3.sublist (List.filter_sublist.map _)
   rw [hF12, List.map_append, List.map_cons] at h6
   obtain ⟨R1, R', hR, q1, q2⟩ := List.map_eq_append_iff.1 h6.symm
   obtain ⟨p, R2, hR', q3, q4⟩ := List.map_eq_cons_iff.1 q2
   subst hR'
   have e1 : e.1 = enc p.1 := (congrArg Prod.fst q3).symm
   have e2 : e.2.1 = p.2 := (congrArg Prod.snd q3).symm
   have ho : Only h { h with t := h.t.set it (some (.mapIter (some r) clock (seen ++ [e.2.2]) clock)) } [it] := ⟨Nat.le_refl _, fun b _ hn => by rw [T.get_set, if_neg (by simpa using hn)]⟩
   have hg1 : ∀ x, (h.t.set it (some x)).get r = some (.map es clock) := fun x => by rw [T.get_set, if_neg hne]; exact h1
   have hg2 : ∀ x, (h.t.set it (some x)).get it = some x := fun x => by rw [T.get_set, if_pos rfl]
   have hfil : (es.filter fun x => notIn (seen ++ [e.2.2]) x.2.2) = F1 ++ F2 := by
    have a1 : (es.filter fun x => notIn (seen ++ [e.2.2]) x.2.2) = F.filter fun x => !Nat.beq x.2.2 e.2.2 := by
     rw [hF, List.filter_filter]
     congr 1
     funext x
     rw [notIn_app, Bool.and_comm]
    rw [a1, hF12, List.filter_append, List.filter_cons]
    rw [hF12, List.map_append, List.map_cons, List.nodup_append, List.nodup_cons] at hsub
    have b1 : F1.filter (fun x => !Nat.beq x.2.2 e.2.2) = F1 := List.filter_eq_self.2 fun x hx => by
     have : x.2.2 ≠ e.2.2 := hsub.2.2 x.2.2 (List.mem_map_of_mem hx) e.2.2 (by simp)
     rw [beqF]; simp [this]
    have b2 : F2.filter (fun x => !Nat.beq x.2.2 e.2.2) = F2 := List.filter_eq_self.2 fun x hx => by
     have : x.2.2 ≠ e.2.2 := fun q => hsub.2.1.1 (by rw [← q]; exact List.mem_map_of_mem hx)
     rw [beqF]; simp [this]
    rw [b1, b2, Nat.beq_refl]
    rfl
   refine ⟨p, R1, R2, hR, by rw [← e1, ← e2], ⟨⟨es, clock, seen ++ [e.2.2], hg1 _, h2, h3, h4, hg2 _, ?_⟩, ?_, k.lt, k.ltr⟩, rfl, ho, rfl, fun hh g1 g2 => ?_⟩
   ·rw [hfil, List.map_append, List.map_append, q1, q4]
   ·refine List.Perm.trans ?_ k.pm
    rw [hR, List.append_assoc]
    refine List.Perm.append_left V ?_
    rw [List.singleton_append]
    exact List.perm_middle.symm
   ·rw [hg2] at g1
    rw [hg1] at g2
    unfold entryA
    simp only [g1, g2, lastOf_app, Nat.beq_refl, findStamp_at hees h3, e1, e2]
variable {nt : Nat} {tm : T AV} {h : H}
theorem pick_k {ops : Array Oper} {o : Oper} {l : List Oper} {Q : T AV → H → Prop} {t : Tmp} {it r : Nat} {L V R : List (κ × AV)} (hg : o.guard = none) (hop : o.op = .next (.tmp t) false) (ht : tm.get t = some (.ptr it 0)) (k : RngK enc h it r L V R)
  (h0 : R = [] → opsW P nt ops l (putT nt tm o.dst (.tuple [.bool false])) h Q)
  (h1 : ∀ p R1 R2 h2, R = R1 ++ p :: R2 → RngK enc h2 it r L (V ++ [p]) (R1 ++ R2) → h2.nx = h.nx → Only h h2 [it] → h2.g = h.g → (∀ h3, h3.t.get it = h2.t.get it → h3.t.get r = h2.t.get r → entryA (.ptr it 0) h3 = some (.tuple [enc p.1, p.2])) →
   opsW P nt ops l (putT nt tm o.dst (.tuple [.bool true, enc p.1, p.2])) h2 Q) : pickW P nt ops (o :: l) tm h Q := by
 obtain ⟨C, hC, hall⟩ := next_k k
 refine ⟨hg, C, ?_, fun y hy => ?_⟩
 ·rw [hop]
  unfold pickA
  have : evalA tm (.tmp t) = some (.ptr it 0):= by unfold evalA; simp only [ht]
  simp only [this]
  exact hC
 ·rcases hall y hy with ⟨a, rfl⟩ | ⟨p, R1, R2, a, b, c, d, e, f, g⟩
  ·exact h0 a
  ·rw [b]; exact h1 p R1 R2 y.2 a c d e f g
theorem ex_range (t : TypeId) (x : Operand) : execA P tm h (.range t x) = ob (evalA tm x) fun v => rangeA P t v h := by
 simp only [execA]
 cases evalA tm x <;> rfl
theorem ex_entry (x : Operand) : execA P tm h (.entry x) = ob (evalA tm x) fun v => ob (entryA v h) fun v => .val v h := by
 simp only [execA]
 cases evalA tm x with
 | none => rfl
 | some v => show optV h (entryA v h) = ob (entryA v h) _; cases entryA v h <;> rfl
end
structure StopC (p : Prop) : Prop where
 go : p
theorem stopC {P : Program} {fn nt : Nat} {ro : Option Nat} {c : Code} (rp : List Nat) {ds : List Nat} {tm : T AV} {h : H} {Q : KQ} (hw : StopC (codeW P fn nt ro (codeI c rp) ds tm h Q)) : codeW P fn nt ro (codeI c rp) ds tm h Q := hw.go
def pk1F (P : Program) (nt : Nat) (ds : List Nat) (tm : T AV) (h : H) (Q : KQ) : Code → Prop
 | .region _ ops false => Hold (pickW P nt ops ops.toList tm h (Q .norm ds))
 | _ => False
theorem pk1 {P : Program} {fn nt : Nat} {ro : Option Nat} {c : Code} {rp : List Nat} {ds : List Nat} {tm : T AV} {h : H} {Q : KQ} (hw : pk1F P nt ds tm h Q (codeI c rp)) : codeW P fn nt ro (codeI c rp) ds tm h Q := by
 cases e : codeI c rp with
 | region i ops d =>
  rw [e] at hw
  cases d with
  | false => exact .inr hw.h
  | true => exact absurd hw id
 | _ => rw [e] at hw; exact absurd hw id
end
end Go.AX

namespace Go.Proofs.YtllmfnedkhiomaaGreatDoor.S
open Go Go.AX
noncomputable section
set_option maxRecDepth 100000
def hexF : Nat → Nat → List Nat
 | _, 0 => []
 | n, d + 1 => hexF (n / 16) d ++ [hexD (n % 16)]
theorem hexF_P : ∀ (d n : Nat), n < 16 ^ d → 0 < d → hexF n d = hexP n d
 | 0, n, _, h => by omega
 | d + 1, n, hn, _ => by
  unfold hexF
  by_cases q : n < 16
  ·have e1 : n / 16 = 0:= by omega
   have e2 : n % 16 = n:= by omega
   have h0 : ∀ d, hexF 0 d = List.replicate d 48 := by
    intro d
    induction d with
    | zero => rfl
    | succ d ih => unfold hexF; rw [show 0 / 16 = 0 from rfl, ih, List.replicate_succ']; rfl
   unfold hexP
   rw [e1, e2, h0, hexL_lt q]
   simp
  ·have hd : 0 < d := by
    rcases Nat.eq_zero_or_pos d with rfl | h
    ·simp at hn; omega
    ·exact h
   rw [hexF_P d (n / 16) (by rw [Nat.pow_succ] at hn; omega) hd]
   unfold hexP
   rw [hexL_ge q, List.length_append, List.length_singleton, List.append_assoc]
   congr 2
   omega
abbrev Rw := Nat × Lst
abbrev Kp := List Nat × List Nat
def prs (x : Rw) : List Kp := (List.range (cntP (textP x.2.1 x.2.2))).map fun i => (keyP x.1 i, pieceP (textP x.2.1 x.2.2) i)
end
end Go.Proofs.YtllmfnedkhiomaaGreatDoor.S

namespace Go.Proofs.YtllmfnedkhiomaaGreatDoor.S
open Go Go.AX
noncomputable section
set_option maxRecDepth 100000
theorem cut_lh (s : List Nat) (l n : Nat) (hl : l ≤ n) (hn : n ≤ s.length) : sliceA P 9 (.str s) (some (.int .i64 (.ofNat l))) (some (.int .i64 (.ofNat n))) none = some (.str ((s.take n).drop l)) := by
 have hb : Nat.ble n s.length = true:= by rw [Nat.ble_eq]; exact hn
 have hc : Nat.ble l n = true:= by rw [Nat.ble_eq]; exact hl
 simp only [sliceA, u9a, sliceStr, bndO, bnd, lenL_eq, hb, hc]
end
end Go.Proofs.YtllmfnedkhiomaaGreatDoor.S

namespace Go.Proofs.YtllmfnedkhiomaaGreatDoor.S
open Go Go.AX
noncomputable section
set_option maxRecDepth 100000
end
end Go.Proofs.YtllmfnedkhiomaaGreatDoor.S

namespace Go.Proofs.YtllmfnedkhiomaaGreatDoor.S
open Go Go.AX
noncomputable section
set_option maxRecDepth 100000
structure OgV (h h' : H) (b : Nat) (v : AV) : Prop where
 nx : h.nx ≤ h'.nx
 old : ∀ c, c < h.nx → c ≠ b → blkOf v ≠ some c → h'.t.get c = h.t.get c
 g : h'.g = h.g
theorem OgV.t {h h1 h' : H} {b : Nat} {v : AV} (o : Og h h1 []) (w : OgV h1 h' b v) : OgV h h' b v := ⟨Nat.le_trans o.1.1 w.nx, fun c hc h1 h2 => by rw [w.old c (Nat.lt_of_lt_of_le hc o.1.1) h1 h2, o.1.2 c hc (by simp)], w.g.trans o.2⟩
theorem OgV.e {h h1 h' : H} {b : Nat} {v : AV} (w : OgV h h1 b v) (o : Og h1 h' []) : OgV h h' b v := ⟨Nat.le_trans w.nx o.1.1, fun c hc q1 q2 => by rw [o.1.2 c (Nat.lt_of_lt_of_le hc w.nx) (by simp), w.old c hc q1 q2], o.2.trans w.g⟩
end
end Go.Proofs.YtllmfnedkhiomaaGreatDoor.S

namespace Go.Proofs.YtllmfnedkhiomaaGreatDoor.S
open Go Go.AX
noncomputable section
set_option maxRecDepth 100000
def allP (L : List Rw) : List Kp := L.flatMap prs
def OkRw (y : Rw) : Prop := y.1 < 281474976710656 ∧ y.2.1 < M64 ∧ y.2.2.length ≤ 4000
theorem prs_len {y : Rw} (h : OkRw y) : (prs y).length ≤ 60 := by
 obtain ⟨c, n, s⟩ := y
 have hM : M64 = 18446744073709551616 := rfl
 have : (textP n s).length ≤ 5020:= by unfold textP; have := encN_len h.2.1; have := encN_len (n := s.length) (by have := h.2.2; simp only at this; omega); have := h.2.2; simp only at *; simp; omega
 unfold prs cntP; simp; omega
theorem allP_len : ∀ {L : List Rw}, (∀ y, y ∈ L → OkRw y) → (allP L).length ≤ L.length * 60
 | [], _ => by simp [allP]
 | a :: L, h => by
  have h1 := prs_len (h a (by simp))
  have h2 := allP_len (L := L) fun y hy => h y (by simp [hy])
  unfold allP at h2 ⊢
  rw [List.flatMap_cons, List.length_append, List.length_cons]; omega
end
end Go.Proofs.YtllmfnedkhiomaaGreatDoor.S

namespace Go.Proofs.YtllmfnedkhiomaaGreatDoor.S
open Go Go.AX
noncomputable section
set_option maxRecDepth 100000
theorem retW_undefL {fn : Func} {rl : List ResultVar} {tm : T AV} {Q : AV → H → Prop} (hl : fn.results.toList = rl) : ∀ (ds : List Nat) (h : H), ds.Nodup → (∀ d, d ∈ ds → h.t.get d = some (.deferred (some []))) →
  (∀ h', h'.nx = h.nx → (∀ c, c ∉ ds → h'.t.get c = h.t.get c) → h'.g = h.g → retW P rl tm h' Q) → retK P fn Q .ret ds tm h
 | [], h, _, _, hw => retW_intro hl (hw h rfl (fun _ _ => rfl) rfl)
 | d :: ds, h, hn, hd, hw => by
  rw [List.nodup_cons] at hn
  have ih := retW_undefL (tm := tm) (Q := Q) hl ds (h.obj d (.deferred none)) hn.2 (fun e he => by rw [get_obj_ne (fun q => hn.1 (by rw [← q]; exact he))]; exact hd e (by simp [he])) (fun h' e1 e2 e3 => hw h' e1 (fun c hc => by
   simp only [List.mem_cons, not_or] at hc
   rw [e2 c hc.2, get_obj_ne hc.1]) e3)
  rw [retK_ret] at ih ⊢
  obtain ⟨h2, hu, r⟩ := ih
  refine ⟨h2, ?_, r⟩
  unfold AX.undef
  rw [hd d (by simp)]
  exact hu
def outF (L : List (List Nat × AV)) (ps : List Kp) : List (List Nat × AV) := ps.foldl (fun L p => mapPut p.1 (.str p.2) L) L
theorem outF_s (L : List (List Nat × AV)) {ps : List Kp} {i : Nat} {p : Kp} (h : ps[i]? = some p) : outF L (ps.take (i + 1)) = mapPut p.1 (.str p.2) (outF L (ps.take i)) := by
 unfold outF
 rw [List.take_add_one, h, List.foldl_append]; rfl
theorem prs_at {c n i : Nat} {s : List Nat} (h : i < cntP (textP n s)) : (prs (c, n, s))[i]? = some (keyP c i, pieceP (textP n s) i) := by
 unfold prs
 rw [List.getElem?_map, List.getElem?_range h]; rfl
theorem prs_len' (c n : Nat) (s : List Nat) : (prs (c, n, s)).length = cntP (textP n s):= by unfold prs; simp
noncomputable abbrev loopP (hk : H) (tm : T AV) : ALoop := loopR 9 31 tm [25, 26] (codeI (bodyC Tryz.f9) [0, 0, 1, 1, 0, 1, 1, 0, 0, 1, 0, 1, 1, 1]) (codeI (bodyC Tryz.f9) [1, 0, 1, 1, 0, 1, 1, 0, 0, 1, 0, 1, 1, 1]) hk.nx .ready
theorem roundP (hk : H) (ro bo : Nat) (tm : T AV) (t3 : tm.get 3 = some (.ptr bo 0)) (cb : cellAt hk bo 0 = some (.map ro)) (hbo : bo < hk.nx) (hro : ro < hk.nx) (hne : bo ≠ ro) (h : H) (key p : List Nat) (L : List (List Nat × AV)) (hj : OJ hk ro (loopP hk tm) L h) :
  PushC P (.round (hk.nx + 1) [.str key, .str p] h) fun v h' => v = .bool true ∧ OJ hk ro (loopP hk tm) (mapPut key (.str p) L) h' := by
 refine round_walk (tm := (tm.set 25 (some (.str key))).set 26 (some (.str p))) hj.lp rfl ?_
 show codeW P 9 31 (some (hk.nx + 1)) (codeI (bodyC Tryz.f9) [0, 0, 1, 1, 0, 1, 1, 0, 0, 1, 0, 1, 1, 1]) _ _ _ _
 repeat' (first | ((with_reducible refine st1 ?_); (conv => whnf); (with_reducible refine ⟨?_⟩)) | ((with_reducible refine retW_intro rfl ?_); (conv => arg 2; whnf)) | ((with_reducible first | refine iB ?_ ?_ | refine gWt ?_ ?_ | refine gWf ?_ ?_) <;> intro hb <;> (try simp only [hb])) | (simp only [B, F, reduceLT, reduceLeDiff, reduceEqDiff, reduceAdd, reduceMul, reduceSub, ↓reduceIte, eq_self]))
 refine asg_norm hj.lp rfl ?_
 show codeW P 9 31 (some (hk.nx + 1)) (codeI (bodyC Tryz.f9) [1, 0, 1, 1, 0, 1, 1, 0, 0, 1, 0, 1, 1, 1]) _ _ _ _
 have j1 : OJ hk ro { loopP hk tm with state := .busy } L (h.obj (hk.nx + 1) (.loop { loopP hk tm with state := .busy })) := hj.state hro
 obtain ⟨h1, e1⟩ : ∃ h1, h1 = h.obj (hk.nx + 1) (.loop { loopP hk tm with state := .busy }) := ⟨_, rfl⟩
 rw [← e1] at j1
 have cb1 : cellAt h1 bo 0 = some (.map ro):= by rw [cellAt_of_get (j1.old bo hbo hne)]; exact cb
 obtain ⟨h3, hu, m3, x3, o3, g3⟩ := update_k u31a k9 j1.mp key (.str p)
 have j3 := j1.put o3 hro m3 g3
 rw [← e1]
 repeat' (first | ((with_reducible refine st1 ?_); (conv => whnf); (with_reducible refine ⟨?_⟩)) | ((with_reducible refine retW_intro rfl ?_); (conv => arg 2; whnf)) | ((with_reducible first | refine iB ?_ ?_ | refine gWt ?_ ?_ | refine gWf ?_ ?_) <;> intro hb <;> (try simp only [hb])) | (simp only [B, F, reduceLT, reduceLeDiff, reduceEqDiff, reduceAdd, reduceMul, reduceSub, ↓reduceIte, eq_self, t3, cb1, @ex_mapUpdate, hu, oH_some]))
 exact roundEnd_norm (r := loopP hk tm) j3.lp rfl rfl ⟨rfl, j3.state hro⟩
theorem loopPC (hk : H) (ro bo b1 b2 c num : Nat) (r : List Nat) (L0 : List (List Nat × AV)) (ds : List Nat) (tm : T AV) (K : KQ) (t24 : tm.get 24 = some (.func 38 [] [.ptr b1 0, .ptr b2 0])) (t3 : tm.get 3 = some (.ptr bo 0)) (cb : cellAt hk bo 0 = some (.map ro)) (hbo : bo < hk.nx) (hne : bo ≠ ro) (gl : Gl hk) (hr3 : ro ≠ 7)
  (mp : MapK encS hk ro L0) (k0 : cellAt hk b1 0 = some (.int .u64 (.ofNat num))) (k1 : cellAt hk b1 1 = some (.str r)) (k2 : cellAt hk b2 0 = some (.int .u64 (.ofNat c))) (hb1 : b1 < hk.nx) (hb2 : b2 < hk.nx) (n2 : b2 ≠ ro) (hn : num < M64) (hr : r.length < 5000) (hc : c < M64)
  (hK : ∀ h2, hk.nx + 2 ≤ h2.nx → (∀ b, b < hk.nx → b ≠ ro → h2.t.get b = hk.t.get b) → h2.t.get hk.nx = some (.deferred (some [])) → h2.g = hk.g → MapK encS h2 ro (outF L0 (prs (c, num, r))) → K .norm (hk.nx :: ds) tm h2) :
  codeW P 9 31 none (codeI (bodyC Tryz.f9) [0, 1, 1, 0, 1, 1, 0, 0, 1, 0, 1, 1, 1]) ds tm hk K := by
 have hro := mp.lt
 refine st_rf rfl (f := .tmp 24) (ps := #[25, 26]) rfl rfl ?_
 refine rf_walk (g := 38) (cap := [.ptr b1 0, .ptr b2 0]) (by rw [evalA_tmp, t24]; rfl) (fun args h => callV_func 38 (by kernel_rfl) [] _ args) ?_
 have hbase : ∀ b, b < hk.nx → (loopH hk 9 31 tm [25, 26] (codeI (bodyC Tryz.f9) [0, 0, 1, 1, 0, 1, 1, 0, 0, 1, 0, 1, 1, 1]) (codeI (bodyC Tryz.f9) [1, 0, 1, 1, 0, 1, 1, 0, 0, 1, 0, 1, 1, 1])).t.get b = hk.t.get b := fun b hb => by rw [loopH_get, if_neg (by omega), if_neg (by omega)]
 have hJ0 : OJ hk ro (loopP hk tm) L0 (loopH hk 9 31 tm [25, 26] (codeI (bodyC Tryz.f9) [0, 0, 1, 1, 0, 1, 1, 0, 0, 1, 0, 1, 1, 1]) (codeI (bodyC Tryz.f9) [1, 0, 1, 1, 0, 1, 1, 0, 0, 1, 0, 1, 1, 1])) :=
  ⟨by rw [loopH_nx]; omega, fun b hb _ => hbase b hb, by rw [loopH_get, if_pos rfl], by rw [loopH_get, if_neg (by omega), if_pos rfl], mp.get (by rw [loopH_nx]; omega) (hbase _ hro), rfl⟩
 refine (piecesC _ (hk.nx + 1) b1 b2 c num r hn hr hc (fun i h => OJ hk ro (loopP hk tm) (outF L0 ((prs (c, num, r)).take i)) h) (by rw [cellAt_of_get (hbase _ hb1)]; exact k0) (by rw [cellAt_of_get (hbase _ hb1)]; exact k1) (by rw [loopH_nx]; omega) (fun i h h' j o => j.keep o)
  (fun i h j => ⟨gl.hk (by have := j.nx; omega) j.old hr3 j.g, by rw [cellAt_of_get (j.old _ hb2 n2)]; exact k2, by have := j.nx; omega⟩) (fun i h j hi => ?_) hJ0).mono P ?_
 ·rw [outF_s L0 (prs_at hi)]
  exact roundP hk ro bo tm t3 cb hbo hro hne h _ _ _ j
 rintro _ h2 j
 refine ⟨j.lp, ?_⟩
 have j2 : OJ hk ro { loopP hk tm with state := .exhausted } _ _ := j.state (R' := { loopP hk tm with state := .exhausted }) hro
 refine hK _ j2.nx j2.old j2.df j2.g ?_
 have := j2.mp
 rw [← prs_len' c num r, List.take_length] at this
 exact this
end
end Go.Proofs.YtllmfnedkhiomaaGreatDoor.S

namespace Go.Proofs.YtllmfnedkhiomaaGreatDoor.S
open Go Go.AX
noncomputable section
set_option maxRecDepth 100000
theorem mapV_split {R : List Rw} {p : Nat × AV} {R1 R2 : List (Nat × AV)} (h : mapV R = R1 ++ p :: R2) : ∃ S1 x S2, R = S1 ++ x :: S2 ∧ mapV S1 = R1 ∧ p = (x.1, lsA x.2) ∧ mapV S2 = R2 := by
 unfold mapV at h
 obtain ⟨S1, S', e, q1, q2⟩ := List.map_eq_append_iff.1 h
 obtain ⟨x, S2, e2, q3, q4⟩ := List.map_eq_cons_iff.1 q2
 subst e2
 exact ⟨S1, x, S2, e, q1, q3.symm, q4⟩
theorem perm_step {α : Type} {V S1 S2 L : List α} {x : α} (h : (V ++ (S1 ++ x :: S2)).Perm L) : (V ++ [x] ++ (S1 ++ S2)).Perm L := by
 refine List.Perm.trans ?_ h
 rw [List.append_assoc]
 refine List.Perm.append_left V ?_
 rw [List.singleton_append]
 exact List.perm_middle.symm
theorem mapV_app (A B : List Rw) : mapV (A ++ B) = mapV A ++ mapV B:= by unfold mapV; rw [List.map_append]
structure PaI (h0 : H) (b r bo ro it : Nat) (Bk : List Rw) (m : Nat) (ds : List Nat) (tm : T AV) (h : H) (V R : List Rw) : Prop where
 nn : m = R.length
 pm : (V ++ R).Perm Bk
 t3 : tm.get 3 = some (.ptr bo 0)
 t16 : tm.get 16 = some (.ptr it 0)
 rg : RngK encU h it r (mapV Bk) (mapV V) (mapV R)
 mp : MapK encS h ro (outF [] (allP V))
 cb : cellAt h bo 0 = some (.map ro)
 nd : ds.Nodup
 df : ∀ d, d ∈ ds → h.t.get d = some (.deferred (some [])) ∧ h0.nx + 3 ≤ d ∧ d < h.nx
 oo : Og h0 h []
theorem pairsC (h0 : H) (b r : Nat) (Bk : List Rw) (k : BkAt h0 b r Bk) (gl : Gl h0) (hB : ∀ y, y ∈ Bk → OkRw y) :
  PushC P (.enter 9 [.ptr b 0] h0) fun u h' => ∃ ro V, u = .map ro ∧ Og h0 h' [] ∧ h0.nx ≤ ro ∧ V.Perm Bk ∧ MapK encS h' ro (outF [] (allP V)) := by
 obtain ⟨h1, h1e⟩ : ∃ h1, h1 = h0.alloc (.map [] 0) := ⟨_, rfl⟩
 have o1 : Og h0 h1 []:= by rw [h1e]; exact (Og.refl _ _).alloc _
 have x1 : h1.nx = h0.nx + 1:= by rw [h1e]; rfl
 have m1 : MapK encS h1 h0.nx []:= by rw [h1e]; exact newMap h0 encS
 obtain ⟨h2, h2e⟩ : ∃ h2, h2 = (h1.newCells 25 [AV.nilmap]).sts h1.nx 0 [.map h0.nx] := ⟨_, rfl⟩
 have o12 : Og h1 h2 []:= by rw [h2e]; exact ((Og.refl _ _).new _ _).sts (.inr (Nat.le_refl _))
 have x2 : h2.nx = h1.nx + 1:= by rw [h2e, nx_sts, nx_new]
 have y2 : cellAt h2 h1.nx 0 = some (.map h0.nx):= by rw [h2e, cellAt_sts (by rw [wrAt_new, if_pos rfl]), if_pos ⟨rfl, Nat.zero_le _, by simp⟩]; rfl
 have o2 := o1.t o12
 have k2 := k.keep o2 (by simp) (by simp)
 have c0 := k2.c0
 have lt0 := k.lt
 have ltr := k.mm.lt
 have gx := gl.x
 obtain ⟨h3, hrg, rg3, x3, o3, gg3⟩ := range_k (P := P) k2.mm u52a
 have o23 : Og h2 h3 [] := ⟨o3, gg3⟩
 have o03 := o2.t o23
 refine pushC_of_codeW (fn := Tryz.f9) (c := bodyC Tryz.f9) Tryz.func9 rfl ?_
 show codeW P 9 31 none _ _ _ _ _
 refine codeW_root ?_
 repeat' (first | ((with_reducible refine st1 ?_); (conv => whnf); (with_reducible refine ⟨?_⟩)) | ((with_reducible refine retW_intro rfl ?_); (conv => arg 2; whnf)) | ((with_reducible first | refine iB ?_ ?_ | refine gWt ?_ ?_ | refine gWf ?_ ?_) <;> intro hb <;> (try simp only [hb])) | (simp only [B, F, reduceLT, reduceLeDiff, reduceEqDiff, reduceAdd, reduceMul, reduceSub, ↓reduceIte, eq_self, mk31, ← h1e, ← h2e, c0, @ex_range, hrg]))
 refine st_loop (fun m ds tm h => ∃ V R, PaI h0 b r h1.nx h0.nx h2.nx Bk m ds tm h V R) Bk.length rfl ⟨[], Bk, rfl, List.Perm.refl _, by simp only [B, F, reduceLT, reduceLeDiff, reduceEqDiff, reduceAdd, reduceMul, reduceSub, ↓reduceIte, eq_self], by simp only [B, F, reduceLT, reduceLeDiff, reduceEqDiff, reduceAdd, reduceMul, reduceSub, ↓reduceIte, eq_self], rg3, (m1.keep o12.1 (by simp)).keep o3 (by simp), kc y2 o23 (by omega) (by simp), List.nodup_nil, fun d hd => (by cases hd), o03⟩ (fun m ds tm h hI => ?_)
 obtain ⟨V, R, rfl, pm, t3, t16, rg, mp, cb, nd, df, oo⟩ := hI
 have xo := oo.1.1
 repeat' (first | (with_reducible refine stopC [0, 0, 0, 1, 0, 1, 1, 1] ?_) | ((with_reducible refine st1 ?_); (conv => whnf); (with_reducible refine ⟨?_⟩)) | ((with_reducible refine retW_intro rfl ?_); (conv => arg 2; whnf)) | ((with_reducible first | refine iB ?_ ?_ | refine gWt ?_ ?_ | refine gWf ?_ ?_) <;> intro hb <;> (try simp only [hb])) | (simp only [B, F, reduceLT, reduceLeDiff, reduceEqDiff, reduceAdd, reduceMul, reduceSub, ↓reduceIte, eq_self]))
 refine ⟨pk1 ?_⟩
 (conv => whnf)
 with_reducible refine ⟨?_⟩
 refine pick_k rfl rfl t16 rg (fun hR => ?_) (fun p R1 R2 h4 hR rg4 x4 o4 gg4 hen => ?_)
 ·obtain rfl : R = []:= by unfold mapV at hR; exact List.map_eq_nil_iff.1 hR
  rw [List.append_nil] at pm
  repeat' (first | ((with_reducible refine st1 ?_); (conv => whnf); (with_reducible refine ⟨?_⟩)) | ((with_reducible refine retW_intro rfl ?_); (conv => arg 2; whnf)) | ((with_reducible first | refine iB ?_ ?_ | refine gWt ?_ ?_ | refine gWf ?_ ?_) <;> intro hb <;> (try simp only [hb])) | (simp only [B, F, reduceLT, reduceLeDiff, reduceEqDiff, reduceAdd, reduceMul, reduceSub, ↓reduceIte, eq_self, t3, cb]))
  refine retW_undefL rfl ds h nd (fun d hd => (df d hd).1) (fun h' e1 e2 e3 => ?_)
  (conv => arg 2; whnf)
  simp only [B, F, reduceLT, reduceLeDiff, reduceEqDiff, reduceAdd, reduceMul, reduceSub, ↓reduceIte, eq_self]
  have hnd : ∀ d, d < h0.nx + 3 → d ∉ ds := fun d hd q => by have := (df d q).2.1; omega
  exact ⟨h0.nx, V, rfl, ⟨⟨by omega, fun d hd _ => by rw [e2 d (hnd d (by omega))]; exact oo.1.2 d hd (by simp)⟩, by rw [e3]; exact oo.2⟩, Nat.le_refl _, pm, mp.get (by omega) (e2 _ (hnd _ (by omega)))⟩
 ·obtain ⟨S1, ⟨c, n, s⟩, S2, rfl, e1, rfl, e2⟩ := mapV_split hR
  have hen4 := hen h4 rfl rfl
  unfold lsA at hen4
  have hy := hB (c, n, s) (pm.mem_iff.1 (by simp))
  have og4 : Og h h4 [h2.nx] := ⟨o4, gg4⟩
  have rl := rg.lt
  have cl := mp.lt
  have cb4 := kc cb og4 (by omega) (by simp; omega)
  have mp4 := mp.keep o4 (by simp; omega)
  obtain ⟨h5, h5e⟩ : ∃ h5, h5 = (h4.newCells 65 [.int .u64 (.ofNat 0), .str []]).sts h4.nx 0 [.int .u64 (.ofNat n), .str s] := ⟨_, rfl⟩
  have o45 : Og h4 h5 []:= by rw [h5e]; exact ((Og.refl _ _).new _ _).sts (.inr (Nat.le_refl _))
  have x5 : h5.nx = h4.nx + 1:= by rw [h5e, nx_sts, nx_new]
  have z0 : cellAt h5 h4.nx 0 = some (.int .u64 (.ofNat n)):= by rw [h5e, cellAt_sts (by rw [wrAt_new, if_pos rfl]), if_pos ⟨rfl, Nat.zero_le _, by simp⟩]; rfl
  have z1 : cellAt h5 h4.nx 1 = some (.str s):= by rw [h5e, cellAt_sts (by rw [wrAt_new, if_pos rfl]), if_pos ⟨rfl, Nat.zero_le _, by simp⟩]; rfl
  repeat' (first | ((with_reducible refine st1 ?_); (conv => whnf); (with_reducible refine ⟨?_⟩)) | ((with_reducible refine retW_intro rfl ?_); (conv => arg 2; whnf)) | ((with_reducible first | refine iB ?_ ?_ | refine gWt ?_ ?_ | refine gWf ?_ ?_) <;> intro hb <;> (try simp only [hb])) | (simp only [B, F, reduceLT, reduceLeDiff, reduceEqDiff, reduceAdd, reduceMul, reduceSub, ↓reduceIte, eq_self, t3, t16, @ex_entry, hen4, ← h5e, z0, z1]))
  refine ((piecC h5 c n s).call P).mono P ?_
  rintro u h6 ⟨rfl, o6, x6, a0, a1, a2⟩
  have o46 := o45.t o6
  have gl6 : Gl h6 := (gl.keep (oo.t ⟨⟨by omega, fun d hd _ => rfl⟩, rfl⟩ : Og h0 h []) (by simp)).keep og4 (by simp; omega) |>.keep o46 (by simp)
  repeat' (first | ((with_reducible refine st1 ?_); (conv => whnf); (with_reducible refine ⟨?_⟩)) | ((with_reducible refine retW_intro rfl ?_); (conv => arg 2; whnf)) | ((with_reducible first | refine iB ?_ ?_ | refine gWt ?_ ?_ | refine gWf ?_ ?_) <;> intro hb <;> (try simp only [hb])) | (simp only [B, F, reduceLT, reduceLeDiff, reduceEqDiff, reduceAdd, reduceMul, reduceSub, ↓reduceIte, eq_self]))
  have hy2 := hy.2.2
  have hy1 := hy.1
  have hy3 := hy.2.1
  simp only at hy1 hy2 hy3
  have hM : M64 = 18446744073709551616 := rfl
  refine loopPC h6 h0.nx h1.nx h5.nx (h5.nx + 1) c n s (outF [] (allP V)) ds _ _ (by simp only [B, F, reduceLT, reduceLeDiff, reduceEqDiff, reduceAdd, reduceMul, reduceSub, ↓reduceIte, eq_self]) (by simp only [B, F, reduceLT, reduceLeDiff, reduceEqDiff, reduceAdd, reduceMul, reduceSub, ↓reduceIte, eq_self, t3]) (kc cb4 o46 (by omega) (by simp)) (by omega) (by omega) gl6 (by omega) (mp4.keep o46.1 (by simp)) a0 a1 a2 (by omega) (by omega) (by omega) hy3 (by omega) (by omega) ?_
  intro h7 x7 old7 df7 g7 m7
  have o07 : Og h0 h7 [] := ⟨⟨by omega, fun d hd _ => by rw [old7 d (by omega) (by omega), o46.1.2 d (by omega) (by simp), o4.2 d (by omega) (by simp; omega)]; exact oo.1.2 d hd (by simp)⟩, by rw [g7, o46.2, gg4, oo.2]⟩
  have rg7 : RngK encU h7 h2.nx r _ _ _ := rg4.get (by omega) (by rw [old7 _ (by omega) (by omega), o46.1.2 _ (by omega) (by simp)]) (by rw [old7 _ (by omega) (by omega), o46.1.2 _ (by omega) (by simp)])
  repeat' (first | ((with_reducible refine st1 ?_); (conv => whnf); (with_reducible refine ⟨?_⟩)) | ((with_reducible refine retW_intro rfl ?_); (conv => arg 2; whnf)) | ((with_reducible first | refine iB ?_ ?_ | refine gWt ?_ ?_ | refine gWf ?_ ?_) <;> intro hb <;> (try simp only [hb])) | (simp only [B, F, reduceLT, reduceLeDiff, reduceEqDiff, reduceAdd, reduceMul, reduceSub, ↓reduceIte, eq_self]))
  refine ⟨(S1 ++ S2).length, by simp, V ++ [(c, n, s)], S1 ++ S2, rfl, perm_step pm, by simp only [B, F, reduceLT, reduceLeDiff, reduceEqDiff, reduceAdd, reduceMul, reduceSub, ↓reduceIte, eq_self, t3], by simp only [B, F, reduceLT, reduceLeDiff, reduceEqDiff, reduceAdd, reduceMul, reduceSub, ↓reduceIte, eq_self, t16], ?_, ?_, ?_, List.nodup_cons.2 ⟨fun q => ?_, nd⟩, fun d hd => ?_, o07⟩
  ·rw [mapV_app, mapV_app, e1, e2]; exact rg7
  ·have : allP (V ++ [(c, n, s)]) = allP V ++ prs (c, n, s):= by unfold allP; rw [List.flatMap_append]; simp
   rw [this]
   unfold outF at m7 ⊢
   rw [List.foldl_append]; exact m7
  ·rw [cellAt_of_get (old7 _ (by omega) (by omega))]; exact kc cb4 o46 (by omega) (by simp)
  ·have := (df _ q).2.2; omega
  ·rcases List.mem_cons.1 hd with rfl | hd
   ·exact ⟨df7, by omega, by omega⟩
   ·obtain ⟨a, b', c'⟩ := df d hd
    exact ⟨by rw [old7 d (by omega) (by omega), o46.1.2 d (by omega) (by simp), o4.2 d c' (by simp; omega)]; exact a, b', by omega⟩
end
end Go.Proofs.YtllmfnedkhiomaaGreatDoor.S

namespace Go.AX
noncomputable section
open Go.RowKit Go.Sort Go.Shelf Go.Proofs
section
variable {P : Program} {ρ : Ren}
theorem sortS_len (l : List (List Nat)) : (sortS l).length = l.length := (sortS_perm l).length_eq
end
end
end Go.AX

namespace Go.Proofs
open Go.Shelf
def Tryz.keys17_ren : Go.Shelf.Ren := ⟨fun | 7 => 17 | 10 => 31 | n => n, fun | 23 => 25 | 26 => 9 | 3 => 9 | 28 => 60 | 0 => 0 | 27 => 59 | 33 => 83 | 4 => 4 | n => n, fun | n => n⟩
theorem Tryz.keys17 : Go.Proofs.SlLaysZ.n7 Tryz.prog Tryz.keys17_ren := {
 mixed:= by kernel_rfl
 f7 := ⟨Tryz.f17.name, by decide, Tryz.func17.trans (congrArg some (by kernel_rfl))⟩
 f10 := ⟨Tryz.f31.name, by decide, Tryz.func31.trans (congrArg some (by kernel_rfl))⟩
 t0 := Tryz.underlying0
 a0 := Tryz.isAgg0
 z0 := Tryz.sizeOf0
 v0 := Tryz.zeroValue0
 t4 := Tryz.underlying4
 a4 := Tryz.isAgg4
 z4 := Tryz.sizeOf4
 v4 := Tryz.zeroValue4
 t23 := Tryz.underlying25
 a23 := Tryz.isAgg25
 z23 := Tryz.sizeOf25
 v23 := Tryz.zeroValue25
 t26 := Tryz.underlying9
 a26 := Tryz.isAgg9
 z26 := Tryz.sizeOf9
 v26 := Tryz.zeroValue9
 t27 := Tryz.underlying59
 a27 := Tryz.isAgg59
 z27 := Tryz.sizeOf59
 v27 := Tryz.zeroValue59
 t28 := Tryz.underlying60
 a28 := Tryz.isAgg60
 z28 := Tryz.sizeOf60
 v28 := Tryz.zeroValue60
 t33 := Tryz.underlying83
 a33 := Tryz.isAgg83
 z33 := Tryz.sizeOf83
 v33 := Tryz.zeroValue83 }
def Tryz.sorted16_ren : Go.Shelf.Ren := ⟨fun | 6 => 16 | 8 => 29 | 9 => 30 | 11 => 46 | 13 => 48 | 12 => 47 | 23 => 72 | 24 => 73 | 14 => 63 | 15 => 64 | 16 => 65 | 17 => 66 | 18 => 67 | 19 => 68 | 20 => 69 | 21 => 70 | 22 => 71 | 25 => 91 | 26 => 92 | 27 => 93 | 28 => 94 | 29 => 95 | 30 => 96 | 31 => 112 | n => n, fun | 26 => 9 | 28 => 60 | 24 => 57 | 0 => 0 | 3 => 3 | 37 => 98 | 48 => 120 | 50 => 26 | 4 => 4 | 40 => 113 | 39 => 112 | 45 => 117 | 5 => 5 | 9 => 9 | 51 => 141 | 55 => 144 | 57 => 161 | 58 => 162 | 33 => 83 | n => n, fun | n => n⟩
theorem Tryz.sorted16 : Go.Proofs.SlLaysZ.n6 Tryz.prog Tryz.sorted16_ren := {
 mixed:= by kernel_rfl
 f6 := ⟨Tryz.f16.name, by decide, Tryz.func16.trans (congrArg some (by kernel_rfl))⟩
 f8 := ⟨Tryz.f29.name, by decide, Tryz.func29.trans (congrArg some (by kernel_rfl))⟩
 f11 := ⟨Tryz.f46.name, by decide, Tryz.func46.trans (congrArg some (by kernel_rfl))⟩
 t0 := Tryz.underlying0
 a0 := Tryz.isAgg0
 z0 := Tryz.sizeOf0
 v0 := Tryz.zeroValue0
 t24 := Tryz.underlying57
 a24 := Tryz.isAgg57
 z24 := Tryz.sizeOf57
 v24 := Tryz.zeroValue57
 t26 := Tryz.underlying9
 a26 := Tryz.isAgg9
 z26 := Tryz.sizeOf9
 v26 := Tryz.zeroValue9
 t28 := Tryz.underlying60
 a28 := Tryz.isAgg60
 z28 := Tryz.sizeOf60
 v28 := Tryz.zeroValue60
 i26:= by kernel_rfl }
def Tryz.sort30_ren : Go.Shelf.Ren := ⟨fun | 6 => 30 | 8 => 48 | 9 => 47 | 19 => 72 | 20 => 73 | 21 => 63 | 22 => 64 | 23 => 65 | 24 => 66 | 25 => 67 | 26 => 68 | 27 => 69 | 28 => 70 | 29 => 71 | 36 => 91 | 31 => 92 | 32 => 93 | 37 => 94 | 38 => 95 | 39 => 96 | 41 => 112 | n => n, fun | 27 => 57 | 29 => 9 | 3 => 3 | 32 => 98 | 26 => 57 | 0 => 0 | 44 => 120 | 46 => 26 | 4 => 4 | 36 => 113 | 35 => 112 | 41 => 117 | 5 => 5 | 9 => 9 | 53 => 141 | 57 => 144 | 63 => 161 | 64 => 162 | n => n, fun | n => n⟩
theorem Tryz.sort30 : Go.Proofs.SlLaysM.n6 Tryz.prog Tryz.sort30_ren := {
 mixed:= by kernel_rfl
 f6 := ⟨Tryz.f30.name, by decide, Tryz.func30.trans (congrArg some (by kernel_rfl))⟩
 f8 := Tryz.func48.trans (congrArg some (by kernel_rfl))
 f9 := ⟨Tryz.f47.name, by decide, Tryz.func47.trans (congrArg some (by kernel_rfl))⟩
 f19 := Tryz.func72.trans (congrArg some (by kernel_rfl))
 f20 := Tryz.func73.trans (congrArg some (by kernel_rfl))
 f21 := ⟨Tryz.f63.name, by decide, Tryz.func63.trans (congrArg some (by kernel_rfl))⟩
 f22 := ⟨Tryz.f64.name, by decide, Tryz.func64.trans (congrArg some (by kernel_rfl))⟩
 f23 := ⟨Tryz.f65.name, by decide, Tryz.func65.trans (congrArg some (by kernel_rfl))⟩
 f24 := ⟨Tryz.f66.name, by decide, Tryz.func66.trans (congrArg some (by kernel_rfl))⟩
 f25 := ⟨Tryz.f67.name, by decide, Tryz.func67.trans (congrArg some (by kernel_rfl))⟩
 f26 := ⟨Tryz.f68.name, by decide, Tryz.func68.trans (congrArg some (by kernel_rfl))⟩
 f27 := ⟨Tryz.f69.name, by decide, Tryz.func69.trans (congrArg some (by kernel_rfl))⟩
 f28 := ⟨Tryz.f70.name, by decide, Tryz.func70.trans (congrArg some (by kernel_rfl))⟩
 f29 := ⟨Tryz.f71.name, by decide, Tryz.func71.trans (congrArg some (by kernel_rfl))⟩
 f31 := Tryz.func92.trans (congrArg some (by kernel_rfl))
 f32 := Tryz.func93.trans (congrArg some (by kernel_rfl))
 f36 := ⟨Tryz.f91.name, by decide, Tryz.func91.trans (congrArg some (by kernel_rfl))⟩
 f37 := ⟨Tryz.f94.name, by decide, Tryz.func94.trans (congrArg some (by kernel_rfl))⟩
 f38 := ⟨Tryz.f95.name, by decide, Tryz.func95.trans (congrArg some (by kernel_rfl))⟩
 f39 := ⟨Tryz.f96.name, by decide, Tryz.func96.trans (congrArg some (by kernel_rfl))⟩
 f41 := ⟨Tryz.f112.name, by decide, Tryz.func112.trans (congrArg some (by kernel_rfl))⟩
 t0 := Tryz.underlying0
 a0 := Tryz.isAgg0
 z0 := Tryz.sizeOf0
 v0 := Tryz.zeroValue0
 t3 := Tryz.underlying3
 a3 := Tryz.isAgg3
 z3 := Tryz.sizeOf3
 v3 := Tryz.zeroValue3
 t4 := Tryz.underlying4
 a4 := Tryz.isAgg4
 z4 := Tryz.sizeOf4
 v4 := Tryz.zeroValue4
 t5 := Tryz.underlying5
 a5 := Tryz.isAgg5
 z5 := Tryz.sizeOf5
 v5 := Tryz.zeroValue5
 t9 := Tryz.underlying9
 a9 := Tryz.isAgg9
 z9 := Tryz.sizeOf9
 v9 := Tryz.zeroValue9
 t26 := Tryz.underlying57
 a26 := Tryz.isAgg57
 z26 := Tryz.sizeOf57
 v26 := Tryz.zeroValue57
 t27 := Tryz.underlying57
 a27 := Tryz.isAgg57
 z27 := Tryz.sizeOf57
 v27 := Tryz.zeroValue57
 t29 := Tryz.underlying9
 a29 := Tryz.isAgg9
 z29 := Tryz.sizeOf9
 v29 := Tryz.zeroValue9
 t32 := Tryz.underlying98
 a32 := Tryz.isAgg98
 z32 := Tryz.sizeOf98
 v32 := Tryz.zeroValue98
 t35 := Tryz.underlying112
 a35 := Tryz.isAgg112
 z35 := Tryz.sizeOf112
 v35 := Tryz.zeroValue112
 t36 := Tryz.underlying113
 a36 := Tryz.isAgg113
 z36 := Tryz.sizeOf113
 v36 := Tryz.zeroValue113
 t41 := Tryz.underlying117
 a41 := Tryz.isAgg117
 z41 := Tryz.sizeOf117
 v41 := Tryz.zeroValue117
 t44 := Tryz.underlying120
 a44 := Tryz.isAgg120
 z44 := Tryz.sizeOf120
 v44 := Tryz.zeroValue120
 t46 := Tryz.underlying26
 a46 := Tryz.isAgg26
 z46 := Tryz.sizeOf26
 v46 := Tryz.zeroValue26
 t53 := Tryz.underlying141
 a53 := Tryz.isAgg141
 z53 := Tryz.sizeOf141
 v53 := Tryz.zeroValue141
 t57 := Tryz.underlying144
 a57 := Tryz.isAgg144
 z57 := Tryz.sizeOf144
 v57 := Tryz.zeroValue144
 t63 := Tryz.underlying161
 a63 := Tryz.isAgg161
 z63 := Tryz.sizeOf161
 v63 := Tryz.zeroValue161
 t64 := Tryz.underlying162
 a64 := Tryz.isAgg162
 z64 := Tryz.sizeOf162
 v64 := Tryz.zeroValue162 }
end Go.Proofs

namespace Go.Proofs.YtllmfnedkhiomaaGreatDoor.S
open Go Go.AX
noncomputable section
set_option maxRecDepth 100000
theorem u67a : P.underlying 57 = some (.slice 9):= by kernel_rfl
def mS (X : List Kp) : List (List Nat × AV) := X.map fun p => (p.1, .str p.2)
def valX (k : List Nat) (X : List Kp) : List Nat := ((X.find? fun p => decide (k = p.1)).map (·.2)).getD []
theorem get_mS (k : List Nat) : ∀ X : List Kp, (mapGet k (mS X)).getD (.str []) = .str (valX k X)
 | [] => rfl
 | p :: X => by
  have ih := get_mS k X
  unfold mapGet mS valX at *
  rw [List.map_cons, List.find?_cons, List.find?_cons]
  by_cases q : k = p.1
  ·simp [q]
  ·simp only [q, decide_false]; exact ih
theorem mS_split {R : List Kp} {p : List Nat × AV} {R1 R2 : List (List Nat × AV)} (h : mS R = R1 ++ p :: R2) : ∃ S1 x S2, R = S1 ++ x :: S2 ∧ mS S1 = R1 ∧ p = (x.1, .str x.2) ∧ mS S2 = R2 := by
 unfold mS at h
 obtain ⟨S1, S', e, q1, q2⟩ := List.map_eq_append_iff.1 h
 obtain ⟨x, S2, e2, q3, q4⟩ := List.map_eq_cons_iff.1 q2
 subst e2
 exact ⟨S1, x, S2, e, q1, q3.symm, q4⟩
theorem mS_app (A B : List Kp) : mS (A ++ B) = mS A ++ mS B:= by unfold mS; rw [List.map_append]
def strs (ks : List (List Nat)) : List AV := ks.map .str
theorem z9a : zeroA P 9 = some (.str []):= by kernel_rfl
end
end Go.Proofs.YtllmfnedkhiomaaGreatDoor.S

namespace Go.Proofs.YtllmfnedkhiomaaGreatDoor.S
open Go Go.AX
noncomputable section
abbrev ltL (a b : List Nat) : Prop := listLtB a b = true
theorem ltN_iff : ∀ a b : List Nat, listLtB a b = true ↔ a < b
 | _, [] => by simp [listLtB]
 | [], y :: b => by simp [listLtB]
 | x :: a, y :: b => by
  have ih := ltN_iff a b
  simp only [listLtB]
  rw [List.cons_lt_cons_iff]
  cases h : Nat.blt x y with
  | true =>
   have : x < y := Nat.le_of_ble_eq_true h
   simp [this]
  | false =>
   have hn : ¬ x < y := fun e => by rw [show Nat.blt x y = true from Nat.ble_eq_true_of_le e] at h; cases h
   simp only
   cases h2 : Nat.beq x y with
   | true =>
    have e := Nat.eq_of_beq_eq_true h2
    subst e
    simp only [ih]
    simp
   | false =>
    have hne := Nat.ne_of_beq_eq_false h2
    simp [hn, hne]
theorem leN_le (a b : List Nat) : leN a b ↔ a ≤ b := by
 unfold leN
 rw [← List.not_lt, ← ltN_iff b a]
 simp
theorem insertN_sorted {s : List Nat} : ∀ {l : List (List Nat)}, l.Pairwise leN → (insertS s l).Pairwise leN
 | [], _ => by simp [insertS]
 | t :: l, h => by
  rw [List.pairwise_cons] at h
  simp only [insertS]
  cases hc : listLtB t s with
  | true =>
   simp only [List.pairwise_cons]
   refine ⟨fun x hx => ?_, insertN_sorted h.2⟩
   rcases mem_insertS.1 hx with rfl | hx
   ·rw [leN_le]; exact List.le_of_lt ((ltN_iff _ _).1 hc)
   ·exact h.1 x hx
  | false =>
   have hst : s ≤ t := (leN_le s t).1 hc
   simp only [List.pairwise_cons]
   refine ⟨fun x hx => ?_, h.1, h.2⟩
   rcases List.mem_cons.1 hx with rfl | hx
   ·exact hc
   ·rw [leN_le]; exact List.le_trans hst ((leN_le t x).1 (h.1 x hx))
theorem sortS_sorted : ∀ l : List (List Nat), (sortS l).Pairwise leN
 | [] => List.Pairwise.nil
 | s :: l => insertN_sorted (sortS_sorted l)
theorem sort_eq {ks ys : List (List Nat)} (hp : ks.Perm ys) (hy : ys.Pairwise ltL) : sortS ks = ys := by
 refine List.Perm.eq_of_pairwise (le := leN) (fun a b _ _ h1 h2 => List.le_antisymm ((leN_le a b).1 h1) ((leN_le b a).1 h2)) (sortS_sorted ks) (hy.imp fun {a b} h => ?_) ((sortS_perm ks).trans hp)
 rw [leN_le]; exact List.le_of_lt ((ltN_iff a b).1 h)
theorem ltL_ne {a b : List Nat} (h : ltL a b) : a ≠ b := fun e => by
 subst e
 exact absurd ((ltN_iff a a).1 h) (List.lt_irrefl a)
theorem valX_mem {p : Kp} : ∀ {X : List Kp}, (X.map (·.1)).Nodup → p ∈ X → valX p.1 X = p.2
 | [], _, h => by cases h
 | q :: X, nd, h => by
  rw [List.map_cons, List.nodup_cons] at nd
  unfold valX
  rw [List.find?_cons]
  rcases List.mem_cons.1 h with rfl | h
  ·simp
  ·have hne : p.1 ≠ q.1 := fun e => nd.1 (by rw [← e]; exact List.mem_map_of_mem h)
   simp only [hne, decide_false]
   exact valX_mem nd.2 h
theorem nodup_of_lt {l : List (List Nat)} (h : l.Pairwise ltL) : l.Nodup := h.imp fun {a b} h => ltL_ne h
theorem rising_eq {X V Y : List Kp} (hV : V.Perm X) (hX : X.Perm Y) (hY : (Y.map (·.1)).Pairwise ltL) : (sortS (V.map (·.1))).map (fun k => (k, valX k X)) = Y := by
 rw [sort_eq ((hV.trans hX).map _) hY, List.map_map]
 have nd : (X.map (·.1)).Nodup := (hX.map (·.1)).nodup_iff.2 (nodup_of_lt hY)
 have : ∀ p, p ∈ Y → ((fun k => (k, valX k X)) ∘ fun x : Kp => x.1) p = id p := fun p hp => by
  simp only [Function.comp, id]
  rw [valX_mem nd (hX.mem_iff.2 hp)]
 rw [List.map_congr_left this, List.map_id]
theorem lt_pre : ∀ (p a b : List Nat), listLtB (p ++ a) (p ++ b) = listLtB a b
 | [], a, b => rfl
 | x :: p, a, b => by
  have : Nat.blt x x = false:= by rw [← Bool.not_eq_true, Nat.blt_eq]; omega
  show listLtB (x :: (p ++ a)) (x :: (p ++ b)) = _
  simp only [listLtB, this, Nat.beq_refl]
  exact lt_pre p a b
theorem lt_head {x y : Nat} (h : x < y) (a b : List Nat) : listLtB (x :: a) (y :: b) = true := by
 have : Nat.blt x y = true:= by rw [Nat.blt_eq]; exact h
 simp only [listLtB, this]
theorem hexD_mono {m n : Nat} (h : m < n) (hn : n < 16) : hexD m < hexD n:= by unfold hexD; split <;> split <;> omega
theorem hexF_lt : ∀ (d m n : Nat) (a b : List Nat), m < n → n < 16 ^ d → ltL (hexF m d ++ a) (hexF n d ++ b)
 | 0, m, n, a, b, h, hn => by simp at hn; omega
 | d + 1, m, n, a, b, h, hn => by
  have e : ∀ k c, hexF k (d + 1) ++ c = hexF (k / 16) d ++ (hexD (k % 16) :: c) := fun k c => by
   show (hexF (k / 16) d ++ [hexD (k % 16)]) ++ c = _
   rw [List.append_assoc]; rfl
  rw [e, e]
  rcases Nat.lt_or_ge (m / 16) (n / 16) with q | q
  ·exact hexF_lt d (m / 16) (n / 16) _ _ q (by rw [Nat.pow_succ] at hn; omega)
  ·have q2 : m / 16 = n / 16 := by
    have : m / 16 ≤ n / 16 := Nat.div_le_div_right (by omega)
    omega
   unfold ltL
   rw [q2, lt_pre]
   exact lt_head (hexD_mono (by omega) (Nat.mod_lt _ (by omega))) _ _
theorem key_c {c d : Nat} (h : c < d) (hd : d < 281474976710656) (i j : Nat) : ltL (keyP c i) (keyP d j) := by
 unfold keyP ltL
 rw [← hexF_P 12 c (by omega) (by omega), ← hexF_P 12 d (by simpa using hd) (by omega), List.append_assoc, List.append_assoc]
 show listLtB ([115] ++ _) ([115] ++ _) = true
 rw [lt_pre]
 exact hexF_lt 12 c d _ _ h (by simpa using hd)
theorem key_i (c : Nat) {i j : Nat} (h : i < j) (hj : j < 256) : ltL (keyP c i) (keyP c j) := by
 unfold keyP ltL
 rw [← hexF_P 2 i (by omega) (by omega), ← hexF_P 2 j (by omega) (by omega)]
 show listLtB ([115] ++ _) ([115] ++ _) = true
 rw [lt_pre]
 show listLtB ((hexP c 12 ++ [45]) ++ hexF i 2) ((hexP c 12 ++ [45]) ++ hexF j 2) = true
 rw [lt_pre]
 have := hexF_lt 2 i j [] [] h (by omega)
 simpa using this
theorem key_ne (c : Nat) {i j : Nat} (h : i ≠ j) (hi : i < 256) (hj : j < 256) : keyP c i ≠ keyP c j := by
 rcases Nat.lt_or_gt_of_ne h with q | q
 ·exact ltL_ne (key_i c q hj)
 ·exact (ltL_ne (key_i c q hi)).symm
theorem put_mS {k v : List Nat} : ∀ {X : List Kp}, k ∉ X.map (·.1) → mapPut k (.str v) (mS X) = mS (X ++ [(k, v)])
 | [], _ => rfl
 | (a, w) :: X, h => by
  simp only [List.map_cons, List.mem_cons, not_or] at h
  show mapPut k (.str v) ((a, .str w) :: mS X) = (a, .str w) :: mS (X ++ [(k, v)])
  unfold mapPut
  rw [if_neg h.1, put_mS h.2]
theorem del_mS {k : List Nat} : ∀ {X : List Kp}, k ∉ X.map (·.1) → mapDel k (mS X) = mS X
 | [], _ => rfl
 | (a, w) :: X, h => by
  simp only [List.map_cons, List.mem_cons, not_or] at h
  show mapDel k ((a, .str w) :: mS X) = (a, .str w) :: mS X
  unfold mapDel
  rw [if_neg h.1, del_mS h.2]
theorem del_hd {k w : List Nat} (X : List Kp) : mapDel k (mS ((k, w) :: X)) = mS X := by
 show mapDel k ((k, .str w) :: mS X) = mS X
 unfold mapDel
 rw [if_pos rfl]
theorem outF_mS : ∀ (ps X : List Kp), ((X ++ ps).map (·.1)).Nodup → outF (mS X) ps = mS (X ++ ps)
 | [], X, _ => by rw [List.append_nil]; rfl
 | p :: ps, X, nd => by
  have h1 : p.1 ∉ X.map (·.1) := by
   rw [List.map_append, List.nodup_append] at nd
   exact fun q => nd.2.2 p.1 q p.1 (by simp) rfl
  show outF (mapPut p.1 (.str p.2) (mS X)) ps = _
  rw [put_mS h1]
  have := outF_mS ps (X ++ [p]) (by rw [List.append_assoc]; exact nd)
  rw [List.append_assoc] at this
  exact this
def restP (c i m : Nat) : List Kp := (List.range' i (m - i)).map fun j => (keyP c j, [])
def newP (c : Nat) (s : List Nat) (i : Nat) : List Kp := (List.range i).map fun j => (keyP c j, pieceP s j)
theorem prs_new (c n : Nat) (s : List Nat) : prs (c, n, s) = newP c (textP n s) (cntP (textP n s)) := rfl
theorem rest_in {c i m j : Nat} (h : j < i) (hm : m ≤ 256) : keyP c j ∉ (restP c i m).map (·.1) := by
 unfold restP
 rw [List.map_map]
 intro q
 obtain ⟨x, hx, e⟩ := List.mem_map.1 q
 rw [List.mem_range'_1] at hx
 exact key_ne c (show x ≠ j by omega) (by omega) (by omega) e
theorem new_in {c i j : Nat} {s : List Nat} (h : i ≤ j) (hj : j < 256) : keyP c j ∉ (newP c s i).map (·.1) := by
 unfold newP
 rw [List.map_map]
 intro q
 obtain ⟨x, hx, e⟩ := List.mem_map.1 q
 rw [List.mem_range] at hx
 exact key_ne c (show x ≠ j by omega) (by omega) (by omega) e
theorem outA_eq (c : Nat) : ∀ m, m ≤ 256 → outA c m = mS (restP c 0 m)
 | 0, _ => rfl
 | m + 1, h => by
  unfold outA
  rw [outA_eq c m (by omega), put_mS]
  ·congr 1
   unfold restP
   rw [Nat.sub_zero, Nat.sub_zero, List.range'_concat, List.map_append]
   simp
  ·unfold restP
   rw [List.map_map]
   intro q
   obtain ⟨x, hx, e⟩ := List.mem_map.1 q
   rw [List.mem_range'_1] at hx
   exact key_ne c (show x ≠ m by omega) (by omega) (by omega) e
theorem outB_eq (c m : Nat) (s : List Nat) (hm : m ≤ 256) : ∀ i, i ≤ 256 → outB c s (mS (restP c 0 m)) i = mS (restP c i m ++ newP c s i)
 | 0, _ => by unfold outB newP; simp
 | i + 1, h => by
  unfold outB
  rw [outB_eq c m s hm i (by omega)]
  have e1 : mapDel (keyP c i) (mS (restP c i m ++ newP c s i)) = mS (restP c (i + 1) m ++ newP c s i) := by
   by_cases q : i < m
   ·have : restP c i m = (keyP c i, []) :: restP c (i + 1) m := by
     unfold restP
     rw [show m - i = (m - (i + 1)) + 1 by omega, List.range'_succ]; rfl
    rw [this]
    exact del_hd _
   ·have e2 : restP c i m = []:= by unfold restP; rw [show m - i = 0 by omega]; rfl
    have e3 : restP c (i + 1) m = []:= by unfold restP; rw [show m - (i + 1) = 0 by omega]; rfl
    rw [e2, e3, List.nil_append]
    exact del_mS (new_in (Nat.le_refl _) (by omega))
  rw [e1, put_mS]
  ·rw [List.append_assoc]
   congr 2
   unfold newP
   rw [List.range_succ, List.map_append]; rfl
  ·rw [List.map_append, List.mem_append]
   rintro (q | q)
   ·exact rest_in (Nat.lt_succ_self i) hm q
   ·exact new_in (Nat.le_refl _) (by omega) q
theorem outR_keys (c n m : Nat) (s : List Nat) (hn : cntP (textP n s) ≤ 256) (hm : m ≤ 256) : ((newP c (textP n s) (cntP (textP n s)) ++ restP c (cntP (textP n s)) m).map (·.1)).Pairwise ltL := by
 have hkeys : (newP c (textP n s) (cntP (textP n s)) ++ restP c (cntP (textP n s)) m).map (·.1) = (List.range' 0 (max (cntP (textP n s)) m)).map (keyP c) := by
  unfold newP restP
  rw [List.map_append, List.map_map, List.map_map, List.range_eq_range']
  have : max (cntP (textP n s)) m = cntP (textP n s) + (m - cntP (textP n s)):= by omega
  rw [this, ← List.range'_append_1, List.map_append, Nat.zero_add]; rfl
 rw [hkeys, List.pairwise_map]
 have hp : (List.range' 0 (max (cntP (textP n s)) m)).Pairwise (· < ·) := List.pairwise_lt_range'
 refine hp.imp_of_mem fun {a b} ha hb h => ?_
 rw [List.mem_range'_1] at hb
 exact key_i c h (by omega)
end
end Go.Proofs.YtllmfnedkhiomaaGreatDoor.S

namespace Go.Proofs.YtllmfnedkhiomaaGreatDoor.S
open Go Go.AX
noncomputable section
theorem getB_none {c : Nat} : ∀ {L : List Rw}, getB c L = none ↔ c ∉ L.map (·.1)
 | [] => by simp [getB]
 | p :: L => by
  have ih := getB_none (c := c) (L := L)
  unfold getB at ih ⊢
  rw [List.find?_cons, List.map_cons, List.mem_cons, not_or]
  by_cases q : c = p.1
  ·simp [q]
  ·simp only [q, decide_false]; rw [ih]; simp
theorem getB_some {c : Nat} {y : Lst} : ∀ {L : List Rw}, (L.map (·.1)).Nodup → (getB c L = some y ↔ (c, y) ∈ L)
 | [], _ => by simp [getB]
 | p :: L, nd => by
  rw [List.map_cons, List.nodup_cons] at nd
  have ih := getB_some (c := c) (y := y) nd.2
  unfold getB at ih ⊢
  rw [List.find?_cons, List.mem_cons]
  by_cases q : c = p.1
  ·simp only [q, decide_true]
   constructor
   ·intro h; cases h; exact .inl rfl
   ·rintro (h | h)
    ·rw [← h]; rfl
    ·exact absurd (List.mem_map_of_mem (f := (·.1)) h) nd.1
  ·simp only [q, decide_false]
   rw [ih]
   constructor
   ·exact .inr
   ·rintro (h | h)
    ·exact absurd (by rw [← h]) q
    ·exact h
structure Rel (Bk L : List Rw) (i : Nat) : Prop where
 pm : Bk.Perm L
 so : (L.map (·.1)).Pairwise (· < ·)
 ok : ∀ y, y ∈ L → y.1 < 281474976710656 ∧ y.2.1 ≤ i ∧ y.2.2.length ≤ 4000
 len : L.length ≤ 64
theorem Rel.nd {Bk L : List Rw} {i : Nat} (r : Rel Bk L i) : (L.map (·.1)).Nodup := r.so.imp fun h => Nat.ne_of_lt h
theorem Rel.ndB {Bk L : List Rw} {i : Nat} (r : Rel Bk L i) : (Bk.map (·.1)).Nodup := (r.pm.map (·.1)).nodup_iff.2 r.nd
theorem Rel.get {Bk L : List Rw} {i : Nat} (r : Rel Bk L i) (c : Nat) : getB c Bk = getB c L := by
 cases h : getB c L with
 | none =>
  rw [getB_none] at h ⊢
  exact fun q => h ((r.pm.map (·.1)).mem_iff.1 q)
 | some y => rw [getB_some r.nd] at h; rw [getB_some r.ndB]; exact r.pm.mem_iff.2 h
theorem Rel.seen {Bk L : List Rw} {i : Nat} (r : Rel Bk L i) (c n : Nat) : seenE Bk c n = seenE L c n := by
 unfold seenE
 rw [r.get c, r.pm.length_eq]
theorem mem_putB {c : Nat} {y : Lst} {z : Rw} : ∀ {L : List Rw}, (L.map (·.1)).Nodup → (z ∈ putB c y L ↔ z = (c, y) ∨ z.1 ≠ c ∧ z ∈ L)
 | [], _ => by simp [putB]
 | (a, x) :: L, nd => by
  rw [List.map_cons, List.nodup_cons] at nd
  have ih := mem_putB (c := c) (y := y) (z := z) nd.2
  unfold putB
  by_cases q : c = a
  ·subst q
   rw [if_pos rfl, List.mem_cons, List.mem_cons]
   constructor
   ·rintro (h | h)
    ·exact .inl h
    ·exact .inr ⟨fun e => nd.1 (by rw [← e]; exact List.mem_map_of_mem (f := (·.1)) h), .inr h⟩
   ·rintro (h | ⟨h1, h | h⟩)
    ·exact .inl h
    ·exact absurd (by rw [h]) h1
    ·exact .inr h
  ·rw [if_neg q, List.mem_cons, List.mem_cons, ih]
   constructor
   ·rintro (h | h | ⟨h1, h2⟩)
    ·exact .inr ⟨by rw [h]; exact fun e => q e.symm, .inl h⟩
    ·exact .inl h
    ·exact .inr ⟨h1, .inr h2⟩
   ·rintro (h | ⟨h1, h | h⟩)
    ·exact .inr (.inl h)
    ·exact .inl h
    ·exact .inr (.inr ⟨h1, h⟩)
theorem putB_keys (c : Nat) (y : Lst) : ∀ L : List Rw, (putB c y L).map (·.1) = if c ∈ L.map (·.1) then L.map (·.1) else L.map (·.1) ++ [c]
 | [] => rfl
 | (a, x) :: L => by
  have ih := putB_keys c y L
  unfold putB
  by_cases q : c = a
  ·subst q
   rw [if_pos rfl]; simp
  ·rw [if_neg q, List.map_cons, ih, List.map_cons]
   by_cases r : c ∈ L.map (·.1)
   ·rw [if_pos r, if_pos (List.mem_cons.2 (.inr r))]
   ·rw [if_neg r, if_neg (fun h => (List.mem_cons.1 h).elim q r)]; rfl
end
end Go.Proofs.YtllmfnedkhiomaaGreatDoor.S

namespace Go.Proofs.YtllmfnedkhiomaaGreatDoor.S
open Go Go.AX
noncomputable section
set_option maxRecDepth 100000
def hexes : List Nat := [48, 49, 50, 51, 52, 53, 54, 55, 56, 57, 97, 98, 99, 100, 101, 102]
def isHx (c : Nat) : Bool := Nat.ble 48 c && Nat.ble c 57 || Nat.ble 97 c && Nat.ble c 102
def hexA : List AV := (List.range 256).map fun c => .bool (isHx c)
theorem hexA_len : hexA.length = 256:= by unfold hexA; simp
theorem setG : groundAt P noHook 60000 51 [.str hexes] = some (.tuple [.agg hexA, .bool true]):= by kernel_rfl
theorem u100a : P.underlying 101 = some (.array 256 4):= by kernel_rfl
theorem co4 : P.cellsOf 4 = 1:= by kernel_rfl
theorem ok4a : okT P 4 = true:= by kernel_rfl
theorem ia101 (b : Nat) (kd : IntKind) (i : Nat) (hi : i < 256) : indexAddrA P 101 (.ptr b 0) (.int kd (.ofNat i)) = some (.ptr b i) := by
 have hb : Nat.blt i 256 = true:= by rw [Nat.blt_eq]; exact hi
 unfold indexAddrA
 simp only [u100a, hb, ok4a, co4, Bool.true_and, Nat.zero_add, Nat.mul_one]
def SetAt (h : H) (b : Nat) : Prop := ∀ i, i < 256 → cellAt h b i = some (.bool (isHx i))
theorem containsC (h : H) (b c : Nat) (hc : c < 256) (hx : SetAt h b) : PushC P (.enter 74 [.ptr b 0, .int .u8 (.ofNat c)] h) (SaysG h (.bool (isHx c))) := by
 have ia := ia101 b .u8 c hc
 have cc := hx c hc
 refine pushC_of_codeW (fn := Tryz.f74) (c := bodyC Tryz.f74) Tryz.func74 rfl ?_
 show codeW P 74 10 none _ _ _ _ _
 refine codeW_root ?_
 repeat' (first | ((with_reducible refine st1 ?_); (conv => whnf); (with_reducible refine ⟨?_⟩)) | ((with_reducible refine retW_intro rfl ?_); (conv => arg 2; whnf)) | ((with_reducible first | refine iB ?_ ?_ | refine gWt ?_ ?_ | refine gWf ?_ ?_) <;> intro hb <;> (try simp only [hb])) | (simp only [B, F, reduceLT, reduceLeDiff, reduceEqDiff, reduceAdd, reduceMul, reduceSub, ↓reduceIte, eq_self, ia, cc]))
 exact ⟨rfl, Og.refl _ _⟩
theorem ix_str {s : List Nat} {i x : Nat} (hx : s[i]? = some x) (kd : IntKind) : indexA P 9 (.str s) (.int kd (.ofNat i)) = some (.int .u8 (.ofNat x)):= by simp only [indexA, u9a, hx]
def allHx (s : List Nat) : Prop := ∀ c, c ∈ s → isHx c = true
def isBy (s : List Nat) : Prop := ∀ c, c ∈ s → c < 256
structure TrR (h0 : H) (b : Nat) (s : List Nat) (m : Nat) (ds : List Nat) (tm : T AV) (h : H) (r t : List Nat) : Prop where
 ds : ds = []
 nn : m = r.length
 st : s = r ++ t
 ht : allHx t
 t0 : tm.get 0 = some (.str r)
 t1 : tm.get 1 = some (.ptr b 0)
 oo : Og h0 h []
theorem last_split {r : List Nat} {x : Nat} (hi : 0 < r.length) (h : r[r.length - 1]? = some x) : r = r.take (r.length - 1) ++ [x] := by
 have := List.take_append_drop (r.length - 1) r
 rw [List.drop_eq_getElem_cons (by omega), List.drop_eq_nil_of_le (by omega)] at this
 rw [List.getElem?_eq_getElem (by omega)] at h
 cases h
 exact this.symm
theorem trimR (h0 : H) (b : Nat) (s : List Nat) (hs : isBy s) (hz : s.length < 1000000) (hx : SetAt h0 b) (hb : b < h0.nx) : PushC P (.enter 53 [.str s, .ptr b 0] h0) fun v h' => Og h0 h' [] ∧ ∃ r, v = .str r ∧ isBy r ∧ r.length ≤ s.length ∧ (r = [] ∧ allHx s ∨ ¬ allHx r ∧ ¬ allHx s) := by
 have e0 : bytesOf { data := #[] } = [] := rfl
 refine pushC_of_codeW (fn := Tryz.f53) (c := bodyC Tryz.f53) Tryz.func53 rfl ?_
 show codeW P 53 22 none _ _ _ _ _
 refine codeW_root ?_
 repeat' (first | ((with_reducible refine st1 ?_); (conv => whnf); (with_reducible refine ⟨?_⟩)) | ((with_reducible refine retW_intro rfl ?_); (conv => arg 2; whnf)) | ((with_reducible first | refine iB ?_ ?_ | refine gWt ?_ ?_ | refine gWf ?_ ?_) <;> intro hb <;> (try simp only [hb])) | (simp only [B, F, reduceLT, reduceLeDiff, reduceEqDiff, reduceAdd, reduceMul, reduceSub, ↓reduceIte, eq_self, e0]))
 refine st_loop (fun m ds tm h => ∃ r t, TrR h0 b s m ds tm h r t) s.length rfl ⟨s, [], rfl, rfl, by simp, fun c hc => (by cases hc), by simp only [B, F, reduceLT, reduceLeDiff, reduceEqDiff, reduceAdd, reduceMul, reduceSub, ↓reduceIte, eq_self], by simp only [B, F, reduceLT, reduceLeDiff, reduceEqDiff, reduceAdd, reduceMul, reduceSub, ↓reduceIte, eq_self], Og.refl _ _⟩ (fun m ds tm h hI => ?_)
 obtain ⟨r, t, rfl, rfl, hst, ht, t0, t1, oo⟩ := hI
 have hr : isBy r := fun c hc => hs c (by rw [hst]; simp [hc])
 have hrl : r.length ≤ s.length:= by rw [hst]; simp
 by_cases hi : 0 < r.length
 ·have d1 : decide (0 < r.length) = true := decide_eq_true hi
  obtain ⟨x, hx0⟩ : ∃ x, r[r.length - 1]? = some x := ⟨_, List.getElem?_eq_getElem (by omega)⟩
  have hx2 := ix_str hx0 .i64
  have w1 : wrapF .i64 (Int.ofNat r.length - Int.ofNat 1) = Int.ofNat (r.length - 1) := i64_sub (by omega) (by omega)
  have xm : x ∈ r := List.mem_of_getElem? hx0
  have hy : SetAt h b := fun i hi => kc (hx i hi) oo hb (by simp)
  have ch := cut_hi r (r.length - 1) (by omega)
  repeat' (first | ((with_reducible refine st1 ?_); (conv => whnf); (with_reducible refine ⟨?_⟩)) | ((with_reducible refine retW_intro rfl ?_); (conv => arg 2; whnf)) | ((with_reducible first | refine iB ?_ ?_ | refine gWt ?_ ?_ | refine gWf ?_ ?_) <;> intro hb <;> (try simp only [hb])) | (simp only [B, F, reduceLT, reduceLeDiff, reduceEqDiff, reduceAdd, reduceMul, reduceSub, ↓reduceIte, eq_self, t0, t1, d1, w1, hx2]))
  refine ((containsC h b x (hr x xm) hy).call P).mono P ?_
  rintro v h1 ⟨rfl, o1⟩
  cases hq : isHx x with
  | true =>
   repeat' (first | ((with_reducible refine st1 ?_); (conv => whnf); (with_reducible refine ⟨?_⟩)) | ((with_reducible refine retW_intro rfl ?_); (conv => arg 2; whnf)) | ((with_reducible first | refine iB ?_ ?_ | refine gWt ?_ ?_ | refine gWf ?_ ?_) <;> intro hb <;> (try simp only [hb])) | (simp only [B, F, reduceLT, reduceLeDiff, reduceEqDiff, reduceAdd, reduceMul, reduceSub, ↓reduceIte, eq_self, t0, t1, w1, Bool.not_true, @ex_sl_h, ch]))
   have hsp := last_split hi hx0
   refine ⟨r.length - 1, by omega, r.take (r.length - 1), x :: t, rfl, by rw [List.length_take]; omega, ?_, fun c hc => ?_, by simp only [B, F, reduceLT, reduceLeDiff, reduceEqDiff, reduceAdd, reduceMul, reduceSub, ↓reduceIte, eq_self], by simp only [B, F, reduceLT, reduceLeDiff, reduceEqDiff, reduceAdd, reduceMul, reduceSub, ↓reduceIte, eq_self, t1], oo.t o1⟩
   ·rw [hst]; conv => lhs; rw [hsp]
    simp
   rcases List.mem_cons.1 hc with rfl | hc
   ·exact hq
   ·exact ht c hc
  | false =>
   repeat' (first | ((with_reducible refine st1 ?_); (conv => whnf); (with_reducible refine ⟨?_⟩)) | ((with_reducible refine retW_intro rfl ?_); (conv => arg 2; whnf)) | ((with_reducible first | refine iB ?_ ?_ | refine gWt ?_ ?_ | refine gWf ?_ ?_) <;> intro hb <;> (try simp only [hb])) | (simp only [B, F, reduceLT, reduceLeDiff, reduceEqDiff, reduceAdd, reduceMul, reduceSub, ↓reduceIte, eq_self, t0, t1, w1, Bool.not_false]))
   refine ⟨oo.t o1, r, rfl, hr, hrl, .inr ⟨fun q => ?_, fun q => ?_⟩⟩
   ·rw [q x xm] at hq; cases hq
   ·rw [q x (by rw [hst]; simp [xm])] at hq; cases hq
 ·have d1 : decide (0 < r.length) = false := decide_eq_false hi
  obtain rfl : r = [] := List.length_eq_zero_iff.1 (by omega)
  repeat' (first | ((with_reducible refine st1 ?_); (conv => whnf); (with_reducible refine ⟨?_⟩)) | ((with_reducible refine retW_intro rfl ?_); (conv => arg 2; whnf)) | ((with_reducible first | refine iB ?_ ?_ | refine gWt ?_ ?_ | refine gWf ?_ ?_) <;> intro hb <;> (try simp only [hb])) | (simp only [B, F, reduceLT, reduceLeDiff, reduceEqDiff, reduceAdd, reduceMul, reduceSub, ↓reduceIte, eq_self, t0, t1, d1]))
  refine ⟨oo, [], rfl, hr, hrl, .inl ⟨rfl, ?_⟩⟩
  rw [hst]; exact ht
structure TrL (h0 : H) (b : Nat) (s : List Nat) (m : Nat) (ds : List Nat) (tm : T AV) (h : H) (r t : List Nat) : Prop where
 ds : ds = []
 nn : m = r.length
 st : s = t ++ r
 ht : allHx t
 t0 : tm.get 0 = some (.str r)
 t1 : tm.get 1 = some (.ptr b 0)
 oo : Og h0 h []
theorem trimL (h0 : H) (b : Nat) (s : List Nat) (hs : isBy s) (hz : s.length < 1000000) (hx : SetAt h0 b) (hb : b < h0.nx) : PushC P (.enter 52 [.str s, .ptr b 0] h0) fun v h' => Og h0 h' [] ∧ ∃ r, v = .str r ∧ (r = [] ↔ allHx s) := by
 have e0 : bytesOf { data := #[] } = [] := rfl
 refine pushC_of_codeW (fn := Tryz.f52) (c := bodyC Tryz.f52) Tryz.func52 rfl ?_
 show codeW P 52 16 none _ _ _ _ _
 refine codeW_root ?_
 repeat' (first | ((with_reducible refine st1 ?_); (conv => whnf); (with_reducible refine ⟨?_⟩)) | ((with_reducible refine retW_intro rfl ?_); (conv => arg 2; whnf)) | ((with_reducible first | refine iB ?_ ?_ | refine gWt ?_ ?_ | refine gWf ?_ ?_) <;> intro hb <;> (try simp only [hb])) | (simp only [B, F, reduceLT, reduceLeDiff, reduceEqDiff, reduceAdd, reduceMul, reduceSub, ↓reduceIte, eq_self, e0]))
 refine st_loop (fun m ds tm h => ∃ r t, TrL h0 b s m ds tm h r t) s.length rfl ⟨s, [], rfl, rfl, by simp, fun c hc => (by cases hc), by simp only [B, F, reduceLT, reduceLeDiff, reduceEqDiff, reduceAdd, reduceMul, reduceSub, ↓reduceIte, eq_self], by simp only [B, F, reduceLT, reduceLeDiff, reduceEqDiff, reduceAdd, reduceMul, reduceSub, ↓reduceIte, eq_self], Og.refl _ _⟩ (fun m ds tm h hI => ?_)
 obtain ⟨r, t, rfl, rfl, hst, ht, t0, t1, oo⟩ := hI
 have hr : isBy r := fun c hc => hs c (by rw [hst]; simp [hc])
 by_cases hi : 0 < r.length
 ·have d1 : decide (0 < r.length) = true := decide_eq_true hi
  obtain ⟨x, hx0⟩ : ∃ x, r[0]? = some x := ⟨_, List.getElem?_eq_getElem hi⟩
  have hx2 := ix_str hx0 .i64
  have xm : x ∈ r := List.mem_of_getElem? hx0
  have hy : SetAt h b := fun i hi => kc (hx i hi) oo hb (by simp)
  have cl := cut_lo r 1 (by omega)
  repeat' (first | ((with_reducible refine st1 ?_); (conv => whnf); (with_reducible refine ⟨?_⟩)) | ((with_reducible refine retW_intro rfl ?_); (conv => arg 2; whnf)) | ((with_reducible first | refine iB ?_ ?_ | refine gWt ?_ ?_ | refine gWf ?_ ?_) <;> intro hb <;> (try simp only [hb])) | (simp only [B, F, reduceLT, reduceLeDiff, reduceEqDiff, reduceAdd, reduceMul, reduceSub, ↓reduceIte, eq_self, t0, t1, d1, hx2]))
  refine ((containsC h b x (hr x xm) hy).call P).mono P ?_
  rintro v h1 ⟨rfl, o1⟩
  cases hq : isHx x with
  | true =>
   repeat' (first | ((with_reducible refine st1 ?_); (conv => whnf); (with_reducible refine ⟨?_⟩)) | ((with_reducible refine retW_intro rfl ?_); (conv => arg 2; whnf)) | ((with_reducible first | refine iB ?_ ?_ | refine gWt ?_ ?_ | refine gWf ?_ ?_) <;> intro hb <;> (try simp only [hb])) | (simp only [B, F, reduceLT, reduceLeDiff, reduceEqDiff, reduceAdd, reduceMul, reduceSub, ↓reduceIte, eq_self, t0, t1, Bool.not_true, @ex_sl_l, cl]))
   have hsp : r = x :: r.drop 1 := by
    cases r with
    | nil => cases hx0
    | cons y r => simp at hx0; simp [hx0]
   refine ⟨r.length - 1, by omega, r.drop 1, t ++ [x], rfl, by rw [List.length_drop], ?_, fun c hc => ?_, by simp only [B, F, reduceLT, reduceLeDiff, reduceEqDiff, reduceAdd, reduceMul, reduceSub, ↓reduceIte, eq_self], by simp only [B, F, reduceLT, reduceLeDiff, reduceEqDiff, reduceAdd, reduceMul, reduceSub, ↓reduceIte, eq_self, t1], oo.t o1⟩
   ·rw [hst]; conv => lhs; rw [hsp]
    simp
   rcases List.mem_append.1 hc with hc | hc
   ·exact ht c hc
   ·rw [List.mem_singleton] at hc; subst hc; exact hq
  | false =>
   repeat' (first | ((with_reducible refine st1 ?_); (conv => whnf); (with_reducible refine ⟨?_⟩)) | ((with_reducible refine retW_intro rfl ?_); (conv => arg 2; whnf)) | ((with_reducible first | refine iB ?_ ?_ | refine gWt ?_ ?_ | refine gWf ?_ ?_) <;> intro hb <;> (try simp only [hb])) | (simp only [B, F, reduceLT, reduceLeDiff, reduceEqDiff, reduceAdd, reduceMul, reduceSub, ↓reduceIte, eq_self, t0, t1, Bool.not_false]))
   refine ⟨oo.t o1, r, rfl, ⟨fun q => (by rw [q] at hi; simp at hi), fun q => ?_⟩⟩
   rw [q x (by rw [hst]; simp [xm])] at hq; cases hq
 ·have d1 : decide (0 < r.length) = false := decide_eq_false hi
  obtain rfl : r = [] := List.length_eq_zero_iff.1 (by omega)
  repeat' (first | ((with_reducible refine st1 ?_); (conv => whnf); (with_reducible refine ⟨?_⟩)) | ((with_reducible refine retW_intro rfl ?_); (conv => arg 2; whnf)) | ((with_reducible first | refine iB ?_ ?_ | refine gWt ?_ ?_ | refine gWf ?_ ?_) <;> intro hb <;> (try simp only [hb])) | (simp only [B, F, reduceLT, reduceLeDiff, reduceEqDiff, reduceAdd, reduceMul, reduceSub, ↓reduceIte, eq_self, t0, t1, d1]))
  refine ⟨oo, [], rfl, fun _ => ?_, fun _ => rfl⟩
  rw [hst]; simpa using ht
theorem hasAll_of {h : H} {b : Nat} : ∀ (k o : Nat), (∀ j, j < k → ∃ v, cellAt h b (o + j) = some v) → hasAll h b o k = true
 | 0, _, _ => rfl
 | k + 1, o, hc => by
  obtain ⟨v, hv⟩ := hc 0 (by omega)
  rw [hasAll_succ, show cellAt h b o = some v from hv, hasAll_of k (o + 1) (fun j hj => by obtain ⟨w, hw⟩ := hc (j + 1) (by omega); exact ⟨w, by rw [show o + 1 + j = o + (j + 1) by omega]; exact hw⟩)]
  rfl
theorem hexA_one : allOne hexA = true:= by kernel_rfl
theorem storeHex (h0 : H) (zs : List AV) (hz : zs.length = 256) : storeV P (h0.newCells 101 zs) 101 h0.nx 0 (.agg hexA) = some ((h0.newCells 101 zs).sts h0.nx 0 hexA) := by
 rw [st101 _ _ hexA_len]
 refine put_sts ?_ ?_ hexA_one (by rfl)
 ·rw [wrAt_new, if_pos rfl]
 ·rw [hexA_len]
  refine hasAll_of _ _ (fun j hj => ?_)
  rw [cellAt_new, if_pos rfl, Nat.zero_add, List.getElem?_eq_getElem (by omega)]
  exact ⟨_, rfl⟩
theorem setHex (h0 : H) (zs : List AV) (hz : zs.length = 256) : SetAt ((h0.newCells 101 zs).sts h0.nx 0 hexA) h0.nx := by
 intro i hi
 rw [cellAt_sts (by rw [wrAt_new, if_pos rfl]), if_pos ⟨rfl, Nat.zero_le _, by rw [hexA_len]; omega⟩]
 unfold hexA
 rw [Nat.sub_zero, List.getElem?_map, List.getElem?_range hi]; rfl
theorem trimC (h0 : H) (s : List Nat) (hs : isBy s) (hz : s.length < 1000000) : PushC P (.enter 32 [.str s, .str hexes] h0) fun v h' => Og h0 h' [] ∧ ∃ r, v = .str r ∧ (r = [] ↔ allHx s) := by
 have e0 : bytesOf { data := #[] } = [] := rfl
 by_cases q : s = []
 ·have d1 : decide (s = []) = true := decide_eq_true q
  refine pushC_of_codeW (fn := Tryz.f32) (c := bodyC Tryz.f32) Tryz.func32 rfl ?_
  show codeW P 32 43 none _ _ _ _ _
  refine codeW_root ?_
  repeat' (first | ((with_reducible refine st1 ?_); (conv => whnf); (with_reducible refine ⟨?_⟩)) | ((with_reducible refine retW_intro rfl ?_); (conv => arg 2; whnf)) | ((with_reducible first | refine iB ?_ ?_ | refine gWt ?_ ?_ | refine gWf ?_ ?_) <;> intro hb <;> (try simp only [hb])) | (simp only [B, xB, F, reduceLT, reduceLeDiff, reduceEqDiff, reduceAdd, reduceMul, reduceSub, ↓reduceIte, eq_self, e0, d1]))
  subst q
  exact ⟨Og.refl _ _, [], rfl, fun _ c hc => (by cases hc), fun _ => rfl⟩
 have d1 : decide (s = []) = false := decide_eq_false q
 have d2 : decide (hexes = []) = false := rfl
 have d3 : decide (hexes.length = 1) = false := rfl
 refine pushC_of_codeW (fn := Tryz.f32) (c := bodyC Tryz.f32) Tryz.func32 rfl ?_
 show codeW P 32 43 none _ _ _ _ _
 refine codeW_root ?_
 repeat' (first | ((with_reducible refine st1 ?_); (conv => whnf); (with_reducible refine ⟨?_⟩)) | ((with_reducible refine retW_intro rfl ?_); (conv => arg 2; whnf)) | ((with_reducible first | refine iB ?_ ?_ | refine gWt ?_ ?_ | refine gWf ?_ ?_) <;> intro hb <;> (try simp only [hb])) | (simp only [B, xB, F, reduceLT, reduceLeDiff, reduceEqDiff, reduceAdd, reduceMul, reduceSub, ↓reduceIte, eq_self, e0, d1, d2, d3]))
 refine callC_closedA setG ?_
 have hst := storeHex h0
 have hse := setHex h0
 repeat' (first | ((with_reducible refine st1 ?_); (conv => whnf); (with_reducible refine ⟨?_⟩)) | ((with_reducible refine retW_intro rfl ?_); (conv => arg 2; whnf)) | ((with_reducible first | refine iB ?_ ?_ | refine gWt ?_ ?_ | refine gWf ?_ ?_) <;> intro hb <;> (try simp only [hb])) | (simp only [B, xB, F, reduceLT, reduceLeDiff, reduceEqDiff, reduceAdd, reduceMul, reduceSub, ↓reduceIte, eq_self, e0, hst]))
 refine ((trimR _ h0.nx s hs hz (hse _ rfl) (by rw [nx_sts, nx_new]; omega)).call P).mono P ?_
 rintro v h1 ⟨o1, r, rfl, hrb, hrl, hr⟩
 have o01 : Og h0 h1 [] := (((Og.refl h0 []).new _ _).sts (.inr (Nat.le_refl _))).t o1
 have hx1 : h0.nx < h1.nx:= by have := o1.1.1; rw [nx_sts, nx_new] at this; omega
 have hs1 : SetAt h1 h0.nx := fun i hi => kc (hse _ rfl i hi) o1 (by rw [nx_sts, nx_new]; omega) (by simp)
 clear o1
 repeat' (first | ((with_reducible refine st1 ?_); (conv => whnf); (with_reducible refine ⟨?_⟩)) | ((with_reducible refine retW_intro rfl ?_); (conv => arg 2; whnf)) | ((with_reducible first | refine iB ?_ ?_ | refine gWt ?_ ?_ | refine gWf ?_ ?_) <;> intro hb <;> (try simp only [hb])) | (simp only [B, xB, F, reduceLT, reduceLeDiff, reduceEqDiff, reduceAdd, reduceMul, reduceSub, ↓reduceIte, eq_self, e0]))
 refine ((trimL _ h0.nx r hrb (by omega) hs1 hx1).call P).mono P ?_
 rintro v h2 ⟨o2, r2, rfl, hr2⟩
 repeat' (first | ((with_reducible refine st1 ?_); (conv => whnf); (with_reducible refine ⟨?_⟩)) | ((with_reducible refine retW_intro rfl ?_); (conv => arg 2; whnf)) | ((with_reducible first | refine iB ?_ ?_ | refine gWt ?_ ?_ | refine gWf ?_ ?_) <;> intro hb <;> (try simp only [hb])) | (simp only [B, xB, F, reduceLT, reduceLeDiff, reduceEqDiff, reduceAdd, reduceMul, reduceSub, ↓reduceIte, eq_self, e0]))
 refine ⟨o01.t o2, r2, rfl, ?_⟩
 rw [hr2]
 rcases hr with ⟨rfl, q2⟩ | ⟨q1, q2⟩
 ·exact ⟨fun _ => q2, fun _ c hc => (by cases hc)⟩
 ·exact ⟨fun x => absurd x q1, fun x => absurd x q2⟩
end
end Go.Proofs.YtllmfnedkhiomaaGreatDoor.S

namespace Go.Proofs.YtllmfnedkhiomaaGreatDoor.S
open Go Go.AX
noncomputable section
set_option maxRecDepth 100000
def hv (c : Nat) : Nat := if c < 58 then c - 48 else c - 87
def numX (s : List Nat) : Nat := s.foldl (fun n c => n * 16 + hv c) 0
theorem isHx_iff {c : Nat} : isHx c = true ↔ 48 ≤ c ∧ c ≤ 57 ∨ 97 ≤ c ∧ c ≤ 102 := by
 unfold isHx
 simp [Nat.ble_eq]
theorem hv_lt {c : Nat} (h : isHx c = true) : hv c < 16 := by
 rw [isHx_iff] at h
 unfold hv; split <;> omega
theorem numX_s {s : List Nat} {i x : Nat} (h : s[i]? = some x) : numX (s.take (i + 1)) = numX (s.take i) * 16 + hv x := by
 unfold numX
 rw [List.take_add_one, h, List.foldl_append]; rfl
theorem numX_lt : ∀ (s : List Nat), allHx s → numX s < 16 ^ s.length := by
 intro s
 have key : ∀ (s : List Nat) (a k : Nat), allHx s → a < 16 ^ k → s.foldl (fun n c => n * 16 + hv c) a < 16 ^ (k + s.length) := by
  intro s
  induction s with
  | nil => intro a k _ h; exact h
  | cons c s ih =>
   intro a k hs ha
   have hc := hv_lt (hs c (by simp))
   have := ih (a * 16 + hv c) (k + 1) (fun d hd => hs d (by simp [hd])) (by rw [Nat.pow_succ]; omega)
   rw [List.length_cons, show k + (s.length + 1) = k + 1 + s.length by omega]
   exact this
 intro hs
 have := key s 0 0 hs (by simp)
 rwa [Nat.zero_add] at this
section
variable {h : H} {t : TypeId} {x y : Operand}
theorem b_or (k : IntKind) (m n : Int) : binR P h .or t x y (.int k m) (.int k n) = .val (.int k (wrapF k (.ofNat (Nat.lor (low k m) (low k n))))) h:= by simp only [binR, apartA, binA, eqB_self, intB, optV, forceInt_eq]
theorem b_shl (k j : IntKind) (m : Int) (n : Nat) : binR P h .shl t x y (.int k m) (.int j (.ofNat n)) = .val (.int k (wrapF k (m * Int.ofNat (2 ^ min n k.bits)))) h:= by simp only [binR, apartA, binA, shiftB, optV, forceInt_eq]
end
theorem low97 {c : Nat} (h1 : 97 ≤ c) (h2 : c ≤ 102) : wrapF .u8 (.ofNat (Nat.lor (low .u8 (.ofNat c)) (low .u8 (.ofNat 32)))) = .ofNat c := by
 obtain rfl | rfl | rfl | rfl | rfl | rfl : c = 97 ∨ c = 98 ∨ c = 99 ∨ c = 100 ∨ c = 101 ∨ c = 102:= by omega
 all_goals kernel_rfl
theorem lowerC (h : H) {c : Nat} (h1 : 97 ≤ c) (h2 : c ≤ 102) : PushC P (.enter 78 [.int .u8 (.ofNat c)] h) (SaysG h (.int .u8 (.ofNat c))) := by
 have e1 := low97 h1 h2
 refine pushC_of_codeW (fn := Tryz.f78) (c := bodyC Tryz.f78) Tryz.func78 rfl ?_
 show codeW P 78 5 none _ _ _ _ _
 refine codeW_root ?_
 repeat' (first | ((with_reducible refine st1 ?_); (conv => whnf); (with_reducible refine ⟨?_⟩)) | ((with_reducible refine retW_intro rfl ?_); (conv => arg 2; whnf)) | ((with_reducible first | refine iB ?_ ?_ | refine gWt ?_ ?_ | refine gWf ?_ ?_) <;> intro hb <;> (try simp only [hb])) | (simp only [B, F, reduceLT, reduceLeDiff, reduceEqDiff, reduceAdd, reduceMul, reduceSub, ↓reduceIte, eq_self, @b_or, e1]))
 exact ⟨rfl, Og.refl _ _⟩
theorem conv_str (h : H) (s : List Nat) (hs : s.length < 1000000) : ∃ h', convR P 9 37 (.str s) h = .val (.slice h.nx 0 s.length (.opn 0)) h' ∧ Og h h' [] ∧ h'.nx = h.nx + 1 ∧ ∀ j c, s[j]? = some c → cellAt h' h.nx j = some (.int .u8 (.ofNat c)) := by
 refine ⟨h.grown none ⟨1, 5 + 1⟩ (s.map fun b => .int .u8 (Int.ofNat b)), ?_, ⟨grown_only, rfl⟩, grownL_nx _ _ _ _, fun j c hc => ?_⟩
 ·unfold convR
  simp only [u75a, u9a]
  unfold convertA
  have u5a : P.underlying 5 = some (.int .u8):= by kernel_rfl
  have hsm : small s.length = true := Nat.ble_eq_true_of_le (by omega)
  simp only [u75a, u9a, u5a, lenL_eq, hsm]
 ·unfold cellAt
  rw [grown_none, if_pos rfl]
  simp only [T.get_ofRow, List.getElem?_map, hc, Option.map_some]
structure PxI (h0 : H) (b : Nat) (s : List Nat) (m : Nat) (ds : List Nat) (tm : T AV) (h : H) (i : Nat) : Prop where
 ds : ds = []
 nn : m = s.length - i
 ii : i ≤ s.length
 t0 : tm.get 0 = some (.str s)
 t1 : tm.get 1 = some (.int .i64 (.ofNat 16))
 t8 : tm.get 8 = some (.bool false)
 t9 : tm.get 9 = some (.str s)
 t10 : tm.get 10 = some (.int .u64 (.ofNat 1152921504606846976))
 t11 : tm.get 11 = some (.int .u64 (.ofNat 18446744073709551615))
 t12 : tm.get 12 = some (.bool false)
 t13 : tm.get 13 = some (.int .u64 (.ofNat (numX (s.take i))))
 t99 : tm.get 99 = some (.slice b 0 s.length (.opn 0))
 t100 : tm.get 100 = some (.int .i64 (.ofNat s.length))
 t101 : tm.get 101 = some (.int .i64 (.ofNat i))
 oo : Og h0 h []
set_option maxHeartbeats 4000000 in
theorem parse0 (h0 : H) (s : List Nat) (hs : allHx s) (hz : s.length ≤ 15) (hp : 0 < s.length) : PushC P (.enter 56 [.str s, .int .i64 (.ofNat 16), .int .i64 (.ofNat 64)] h0) (SaysG h0 (.tuple [.int .u64 (.ofNat (numX s)), .nilIface])) := by
 have e0 : bytesOf { data := #[] } = [] := rfl
 have d0 : decide (s = []) = false := decide_eq_false (fun e => by rw [e] at hp; simp at hp)
 have w1 : wrapF .u64 (Int.ofNat 1 * Int.ofNat (2 ^ min 64 IntKind.u64.bits)) = .ofNat 0:= by kernel_rfl
 have w2 : wrapF .u64 (Int.ofNat 64) = .ofNat 64:= by kernel_rfl
 have w3 : wrapF .u64 (Int.ofNat 0 - Int.ofNat 1) = .ofNat 18446744073709551615:= by kernel_rfl
 obtain ⟨h1, hcv, o1, x1, c1⟩ := conv_str h0 s (by omega)
 refine pushC_of_codeW (fn := Tryz.f56) (c := bodyC Tryz.f56) Tryz.func56 rfl ?_
 show codeW P 56 172 none _ _ _ _ _
 refine codeW_root ?_
 repeat' (first | ((with_reducible refine st1 ?_); (conv => whnf); (with_reducible refine ⟨?_⟩)) | ((with_reducible refine retW_intro rfl ?_); (conv => arg 2; whnf)) | ((with_reducible first | refine iB ?_ ?_ | refine gWt ?_ ?_ | refine gWf ?_ ?_) <;> intro hb <;> (try simp only [hb])) | (simp only [B, F, reduceLT, reduceLeDiff, reduceEqDiff, reduceAdd, reduceMul, reduceSub, ↓reduceIte, eq_self, e0, d0, @b_shl, w1, w2, w3, hcv]))
 refine st_loop (fun m ds tm h => ∃ i, PxI h1 h0.nx s m ds tm h i) s.length rfl ⟨0, rfl, rfl, Nat.zero_le _, by simp only [B, F, reduceLT, reduceLeDiff, reduceEqDiff, reduceAdd, reduceMul, reduceSub, ↓reduceIte, eq_self], by simp only [B, F, reduceLT, reduceLeDiff, reduceEqDiff, reduceAdd, reduceMul, reduceSub, ↓reduceIte, eq_self], by simp only [B, F, reduceLT, reduceLeDiff, reduceEqDiff, reduceAdd, reduceMul, reduceSub, ↓reduceIte, eq_self], by simp only [B, F, reduceLT, reduceLeDiff, reduceEqDiff, reduceAdd, reduceMul, reduceSub, ↓reduceIte, eq_self], by simp only [B, F, reduceLT, reduceLeDiff, reduceEqDiff, reduceAdd, reduceMul, reduceSub, ↓reduceIte, eq_self], by simp only [B, F, reduceLT, reduceLeDiff, reduceEqDiff, reduceAdd, reduceMul, reduceSub, ↓reduceIte, eq_self], by simp only [B, F, reduceLT, reduceLeDiff, reduceEqDiff, reduceAdd, reduceMul, reduceSub, ↓reduceIte, eq_self], by simp only [B, F, reduceLT, reduceLeDiff, reduceEqDiff, reduceAdd, reduceMul, reduceSub, ↓reduceIte, eq_self]; rfl, by simp only [B, F, reduceLT, reduceLeDiff, reduceEqDiff, reduceAdd, reduceMul, reduceSub, ↓reduceIte, eq_self], by simp only [B, F, reduceLT, reduceLeDiff, reduceEqDiff, reduceAdd, reduceMul, reduceSub, ↓reduceIte, eq_self], by simp only [B, F, reduceLT, reduceLeDiff, reduceEqDiff, reduceAdd, reduceMul, reduceSub, ↓reduceIte, eq_self], Og.refl _ _⟩ (fun m ds tm h hI => ?_)
 obtain ⟨i, rfl, rfl, ii, t0, t1, t8, t9, t10, t11, t12, t13, t99, t100, t101, oo⟩ := hI
 by_cases hi : i < s.length
 ·have d1 : decide (i < s.length) = true := decide_eq_true hi
  have lt1 : (i < s.length) = True:= by simp [hi]
  obtain ⟨x, hx⟩ : ∃ x, s[i]? = some x := ⟨_, List.getElem?_eq_getElem hi⟩
  have hxs := hs x (List.mem_of_getElem? hx)
  have hq := isHx_iff.1 hxs
  have cx := kc (c1 i x hx) oo (by omega) (by simp)
  have hsn := numX_s hx
  obtain ⟨n, hn⟩ : ∃ n, n = numX (s.take i) := ⟨_, rfl⟩
  rw [← hn] at t13 hsn
  have hlt : n < 16 ^ 14 := by
   rw [hn]
   have := numX_lt (s.take i) (fun c hc => hs c (List.mem_of_mem_take hc))
   refine Nat.lt_of_lt_of_le this (Nat.pow_le_pow_right (by omega) ?_)
   rw [List.length_take]; omega
  have h14 : (16 : Nat) ^ 14 = 72057594037927936:= by decide
  rw [h14] at hlt
  have hvl := hv_lt hxs
  have d95 : decide (x = 95) = false := decide_eq_false (by omega)
  have d48 : decide (48 ≤ x) = true := decide_eq_true (by omega)
  have dhv : decide (16 ≤ hv x) = false := decide_eq_false (by omega)
  have dcut : decide (1152921504606846976 ≤ n) = false := decide_eq_false (by omega)
  have w16 : wrapF .u8 (Int.ofNat 16) = Int.ofNat 16:= by kernel_rfl
  have w16b : wrapF .u64 (Int.ofNat 16) = Int.ofNat 16:= by kernel_rfl
  have wm : wrapF .u64 (Int.ofNat n * Int.ofNat 16) = Int.ofNat (n * 16) := by
   have : Int.ofNat n * Int.ofNat 16 = Int.ofNat (n * 16) := rfl
   rw [this]; exact u64_nat (by omega)
  have wv : wrapF .u64 (Int.ofNat (hv x)) = Int.ofNat (hv x) := u64_nat (by omega)
  have wa : wrapF .u64 (Int.ofNat (n * 16) + Int.ofNat (hv x)) = Int.ofNat (n * 16 + hv x) := u64_add (by omega)
  have dl : decide (n * 16 + hv x < n * 16) = false := decide_eq_false (by omega)
  have dg : decide (18446744073709551615 < n * 16 + hv x) = false := decide_eq_false (by omega)
  have wi : wrapF .i64 (Int.ofNat i + Int.ofNat 1) = Int.ofNat (i + 1) := i64_add (by omega)
  by_cases h57 : x ≤ 57
  ·have d57 : decide (x ≤ 57) = true := decide_eq_true h57
   have wd : wrapF .u8 (Int.ofNat x - Int.ofNat 48) = Int.ofNat (hv x) := by
    have : Int.ofNat x - Int.ofNat 48 = Int.ofNat (hv x) := by
     show (x : Int) - 48 = ((hv x : Nat) : Int)
     unfold hv; rw [if_pos (by omega)]; omega
    rw [this, u8_mod, Nat.mod_eq_of_lt (by omega)]
   repeat' (first | ((with_reducible refine st1 ?_); (conv => whnf); (with_reducible refine ⟨?_⟩)) | ((with_reducible refine retW_intro rfl ?_); (conv => arg 2; whnf)) | ((with_reducible first | refine iB ?_ ?_ | refine gWt ?_ ?_ | refine gWf ?_ ?_) <;> intro hb <;> (try simp only [hb])) | (simp only [B, F, reduceLT, reduceLeDiff, reduceEqDiff, reduceAdd, reduceMul, reduceSub, ↓reduceIte, eq_self, t0, t1, t8, t9, t10, t11, t12, t13, t99, t100, t101, d1, lt1, Nat.mul_one, cx, d95, d48, d57, wd, dhv, dcut, w16, w16b, wm, wv, wa, dl, dg, wi]))
   refine ⟨s.length - (i + 1), by omega, i + 1, rfl, rfl, by omega, by simp only [B, F, reduceLT, reduceLeDiff, reduceEqDiff, reduceAdd, reduceMul, reduceSub, ↓reduceIte, eq_self, t0], by simp only [B, F, reduceLT, reduceLeDiff, reduceEqDiff, reduceAdd, reduceMul, reduceSub, ↓reduceIte, eq_self, t1], by simp only [B, F, reduceLT, reduceLeDiff, reduceEqDiff, reduceAdd, reduceMul, reduceSub, ↓reduceIte, eq_self, t8], by simp only [B, F, reduceLT, reduceLeDiff, reduceEqDiff, reduceAdd, reduceMul, reduceSub, ↓reduceIte, eq_self, t9], by simp only [B, F, reduceLT, reduceLeDiff, reduceEqDiff, reduceAdd, reduceMul, reduceSub, ↓reduceIte, eq_self, t10], by simp only [B, F, reduceLT, reduceLeDiff, reduceEqDiff, reduceAdd, reduceMul, reduceSub, ↓reduceIte, eq_self, t11], by simp only [B, F, reduceLT, reduceLeDiff, reduceEqDiff, reduceAdd, reduceMul, reduceSub, ↓reduceIte, eq_self, t12], by rw [hsn]; simp only [B, F, reduceLT, reduceLeDiff, reduceEqDiff, reduceAdd, reduceMul, reduceSub, ↓reduceIte, eq_self], by simp only [B, F, reduceLT, reduceLeDiff, reduceEqDiff, reduceAdd, reduceMul, reduceSub, ↓reduceIte, eq_self, t99], by simp only [B, F, reduceLT, reduceLeDiff, reduceEqDiff, reduceAdd, reduceMul, reduceSub, ↓reduceIte, eq_self, t100], by simp only [B, F, reduceLT, reduceLeDiff, reduceEqDiff, reduceAdd, reduceMul, reduceSub, ↓reduceIte, eq_self], oo⟩
  ·have d57 : decide (x ≤ 57) = false := decide_eq_false h57
   have d97 : decide (97 ≤ x) = true := decide_eq_true (by omega)
   have d122 : decide (x ≤ 122) = true := decide_eq_true (by omega)
   have wd : wrapF .u8 (Int.ofNat x - Int.ofNat 97) = Int.ofNat (x - 97) := by
    have : Int.ofNat x - Int.ofNat 97 = Int.ofNat (x - 97) := by
     show (x : Int) - 97 = ((x - 97 : Nat) : Int)
     omega
    rw [this, u8_mod, Nat.mod_eq_of_lt (by omega)]
   have we : wrapF .u8 (Int.ofNat (x - 97) + Int.ofNat 10) = Int.ofNat (hv x) := by
    have : Int.ofNat (x - 97) + Int.ofNat 10 = Int.ofNat (hv x) := by
     show ((x - 97 : Nat) : Int) + 10 = ((hv x : Nat) : Int)
     unfold hv; rw [if_neg (by omega)]; omega
    rw [this, u8_mod, Nat.mod_eq_of_lt (by omega)]
   repeat' (first | ((with_reducible refine st1 ?_); (conv => whnf); (with_reducible refine ⟨?_⟩)) | ((with_reducible refine retW_intro rfl ?_); (conv => arg 2; whnf)) | ((with_reducible first | refine iB ?_ ?_ | refine gWt ?_ ?_ | refine gWf ?_ ?_) <;> intro hb <;> (try simp only [hb])) | (simp only [B, F, reduceLT, reduceLeDiff, reduceEqDiff, reduceAdd, reduceMul, reduceSub, ↓reduceIte, eq_self, t0, t1, t8, t9, t10, t11, t12, t13, t99, t100, t101, d1, lt1, Nat.mul_one, cx, d95, d48, d57, wd]))
   refine ((lowerC _ (c := x) (by omega) (by omega)).call P).mono P ?_
   rintro v h2 ⟨rfl, o2⟩
   repeat' (first | ((with_reducible refine st1 ?_); (conv => whnf); (with_reducible refine ⟨?_⟩)) | ((with_reducible refine retW_intro rfl ?_); (conv => arg 2; whnf)) | ((with_reducible first | refine iB ?_ ?_ | refine gWt ?_ ?_ | refine gWf ?_ ?_) <;> intro hb <;> (try simp only [hb])) | (simp only [B, F, reduceLT, reduceLeDiff, reduceEqDiff, reduceAdd, reduceMul, reduceSub, ↓reduceIte, eq_self, t0, t1, t8, t9, t10, t11, t12, t13, t99, t100, t101, d97]))
   refine ((lowerC _ (c := x) (by omega) (by omega)).call P).mono P ?_
   rintro v h3 ⟨rfl, o3⟩
   repeat' (first | ((with_reducible refine st1 ?_); (conv => whnf); (with_reducible refine ⟨?_⟩)) | ((with_reducible refine retW_intro rfl ?_); (conv => arg 2; whnf)) | ((with_reducible first | refine iB ?_ ?_ | refine gWt ?_ ?_ | refine gWf ?_ ?_) <;> intro hb <;> (try simp only [hb])) | (simp only [B, F, reduceLT, reduceLeDiff, reduceEqDiff, reduceAdd, reduceMul, reduceSub, ↓reduceIte, eq_self, t0, t1, t8, t9, t10, t11, t12, t13, t99, t100, t101, d122]))
   refine ((lowerC _ (c := x) (by omega) (by omega)).call P).mono P ?_
   rintro v h4 ⟨rfl, o4⟩
   repeat' (first | ((with_reducible refine st1 ?_); (conv => whnf); (with_reducible refine ⟨?_⟩)) | ((with_reducible refine retW_intro rfl ?_); (conv => arg 2; whnf)) | ((with_reducible first | refine iB ?_ ?_ | refine gWt ?_ ?_ | refine gWf ?_ ?_) <;> intro hb <;> (try simp only [hb])) | (simp only [B, F, reduceLT, reduceLeDiff, reduceEqDiff, reduceAdd, reduceMul, reduceSub, ↓reduceIte, eq_self, t0, t1, t8, t9, t10, t11, t12, t13, t99, t100, t101, wd, we, dhv, dcut, w16, w16b, wm, wv, wa, dl, dg, wi]))
   refine ⟨s.length - (i + 1), by omega, i + 1, rfl, rfl, by omega, by simp only [B, F, reduceLT, reduceLeDiff, reduceEqDiff, reduceAdd, reduceMul, reduceSub, ↓reduceIte, eq_self, t0], by simp only [B, F, reduceLT, reduceLeDiff, reduceEqDiff, reduceAdd, reduceMul, reduceSub, ↓reduceIte, eq_self, t1], by simp only [B, F, reduceLT, reduceLeDiff, reduceEqDiff, reduceAdd, reduceMul, reduceSub, ↓reduceIte, eq_self, t8], by simp only [B, F, reduceLT, reduceLeDiff, reduceEqDiff, reduceAdd, reduceMul, reduceSub, ↓reduceIte, eq_self, t9], by simp only [B, F, reduceLT, reduceLeDiff, reduceEqDiff, reduceAdd, reduceMul, reduceSub, ↓reduceIte, eq_self, t10], by simp only [B, F, reduceLT, reduceLeDiff, reduceEqDiff, reduceAdd, reduceMul, reduceSub, ↓reduceIte, eq_self, t11], by simp only [B, F, reduceLT, reduceLeDiff, reduceEqDiff, reduceAdd, reduceMul, reduceSub, ↓reduceIte, eq_self, t12], by rw [hsn]; simp only [B, F, reduceLT, reduceLeDiff, reduceEqDiff, reduceAdd, reduceMul, reduceSub, ↓reduceIte, eq_self], by simp only [B, F, reduceLT, reduceLeDiff, reduceEqDiff, reduceAdd, reduceMul, reduceSub, ↓reduceIte, eq_self, t99], by simp only [B, F, reduceLT, reduceLeDiff, reduceEqDiff, reduceAdd, reduceMul, reduceSub, ↓reduceIte, eq_self, t100], by simp only [B, F, reduceLT, reduceLeDiff, reduceEqDiff, reduceAdd, reduceMul, reduceSub, ↓reduceIte, eq_self], ((oo.t o2).t o3).t o4⟩
 ·have d1 : decide (i < s.length) = false := decide_eq_false hi
  obtain rfl : i = s.length:= by omega
  rw [List.take_length] at t13
  repeat' (first | ((with_reducible refine st1 ?_); (conv => whnf); (with_reducible refine ⟨?_⟩)) | ((with_reducible refine retW_intro rfl ?_); (conv => arg 2; whnf)) | ((with_reducible first | refine iB ?_ ?_ | refine gWt ?_ ?_ | refine gWf ?_ ?_) <;> intro hb <;> (try simp only [hb])) | (simp only [B, F, reduceLT, reduceLeDiff, reduceEqDiff, reduceAdd, reduceMul, reduceSub, ↓reduceIte, eq_self, t0, t1, t8, t9, t10, t11, t12, t13, t99, t100, t101, d1]))
  exact ⟨rfl, o1.t oo⟩
theorem u86a : ∃ ms, P.underlying 86 = some (.interface ms) := by
 have h : (match P.underlying 86 with | some (.interface _) => true | _ => false) = true:= by kernel_rfl
 split at h
 ·exact ⟨_, by assumption⟩
 ·cases h
theorem neI (h : H) (x : Operand) (y : Value) : binR P h .neq 86 x (.const y) .nilIface .nilIface = .val (.bool false) h := by
 obtain ⟨ms, hu⟩ := u86a
 simp only [binR, apartA, binA, guardEq, eqA, hu, optV, isConstB, Bool.or_true, Bool.not_true]
theorem eqI (h : H) (x : Operand) (y : Value) : binR P h .eql 86 x (.const y) .nilIface .nilIface = .val (.bool true) h := by
 obtain ⟨ms, hu⟩ := u86a
 simp only [binR, apartA, binA, guardEq, eqA, hu, optV, isConstB, Bool.or_true]
theorem parseC (h0 : H) (s : List Nat) (hs : allHx s) (hz : s.length ≤ 15) (hp : 0 < s.length) : PushC P (.enter 33 [.str s, .int .i64 (.ofNat 16), .int .i64 (.ofNat 64)] h0) (SaysG h0 (.tuple [.int .u64 (.ofNat (numX s)), .nilIface])) := by
 refine pushC_of_codeW (fn := Tryz.f33) (c := bodyC Tryz.f33) Tryz.func33 rfl ?_
 show codeW P 33 26 none _ _ _ _ _
 refine codeW_root ?_
 repeat' (first | ((with_reducible refine st1 ?_); (conv => whnf); (with_reducible refine ⟨?_⟩)) | ((with_reducible refine retW_intro rfl ?_); (conv => arg 2; whnf)) | ((with_reducible first | refine iB ?_ ?_ | refine gWt ?_ ?_ | refine gWf ?_ ?_) <;> intro hb <;> (try simp only [hb])) | (simp only [B, F, reduceLT, reduceLeDiff, reduceEqDiff, reduceAdd, reduceMul, reduceSub, ↓reduceIte, eq_self]))
 refine ((parse0 _ s hs hz hp).call P).mono P ?_
 rintro v h1 ⟨rfl, o1⟩
 repeat' (first | ((with_reducible refine st1 ?_); (conv => whnf); (with_reducible refine ⟨?_⟩)) | ((with_reducible refine retW_intro rfl ?_); (conv => arg 2; whnf)) | ((with_reducible first | refine iB ?_ ?_ | refine gWt ?_ ?_ | refine gWf ?_ ?_) <;> intro hb <;> (try simp only [hb])) | (simp only [B, F, reduceLT, reduceLeDiff, reduceEqDiff, reduceAdd, reduceMul, reduceSub, ↓reduceIte, eq_self, neI]))
 exact ⟨rfl, o1⟩
instance (s : List Nat) : Decidable (allHx s):= by unfold allHx; infer_instance
def digX (k : List Nat) : List Nat := (k.drop 1).take 12
def cliOf (k : List Nat) : Option Nat := if k.length = 16 ∧ k[0]? = some 115 ∧ allHx (digX k) then some (numX (digX k)) else none
theorem clientC (h0 : H) (k : List Nat) (hk : isBy k) (hz : k.length < 1000000) : PushC P (.enter 18 [.str k] h0) fun v h' => ∃ n, SaysG h0 (.tuple [.int .u64 (.ofNat n), .bool (cliOf k).isSome]) v h' ∧ ∀ c, cliOf k = some c → n = c := by
 have hxb : bytesOf { data := #[48, 49, 50, 51, 52, 53, 54, 55, 56, 57, 97, 98, 99, 100, 101, 102] } = hexes := rfl
 have e0 : bytesOf { data := #[] } = [] := rfl
 by_cases q1 : k.length = 16
 ·have d1 : decide (k.length = 16) = true := decide_eq_true q1
  obtain ⟨x, hx⟩ : ∃ x, k[0]? = some x := ⟨_, List.getElem?_eq_getElem (by omega)⟩
  have ix := ix_str hx .i64
  by_cases q2 : x = 115
  ·have d2 : decide (x = 115) = true := decide_eq_true q2
   have cl := cut_lh k 1 13 (by omega) (by omega)
   have hdg : (k.take 13).drop 1 = digX k:= by unfold digX; rw [List.drop_take]
   rw [hdg] at cl
   have dby : isBy (digX k) := fun c hc => hk c (List.mem_of_mem_drop (List.mem_of_mem_take hc))
   have dln : (digX k).length = 12:= by unfold digX; rw [List.length_take, List.length_drop]; omega
   refine pushC_of_codeW (fn := Tryz.f18) (c := bodyC Tryz.f18) Tryz.func18 rfl ?_
   show codeW P 18 28 none _ _ _ _ _
   refine codeW_root ?_
   repeat' (first | ((with_reducible refine st1 ?_); (conv => whnf); (with_reducible refine ⟨?_⟩)) | ((with_reducible refine retW_intro rfl ?_); (conv => arg 2; whnf)) | ((with_reducible first | refine iB ?_ ?_ | refine gWt ?_ ?_ | refine gWf ?_ ?_) <;> intro hb <;> (try simp only [hb])) | (simp only [B, xB, F, reduceLT, reduceLeDiff, reduceEqDiff, reduceAdd, reduceMul, reduceSub, ↓reduceIte, eq_self, d1, ix, d2, Bool.not_true, @ex_sl_lh, cl, hxb]))
   refine ((trimC _ (digX k) dby (by omega)).call P).mono P ?_
   rintro v h1 ⟨o1, r, rfl, hr⟩
   by_cases q3 : r = []
   ·have d3 : decide (r = []) = true := decide_eq_true q3
    have hh := hr.1 q3
    have hc : cliOf k = some (numX (digX k)):= by unfold cliOf; rw [if_pos ⟨q1, by rw [hx, q2], hh⟩]
    repeat' (first | ((with_reducible refine st1 ?_); (conv => whnf); (with_reducible refine ⟨?_⟩)) | ((with_reducible refine retW_intro rfl ?_); (conv => arg 2; whnf)) | ((with_reducible first | refine iB ?_ ?_ | refine gWt ?_ ?_ | refine gWf ?_ ?_) <;> intro hb <;> (try simp only [hb])) | (simp only [B, xB, F, reduceLT, reduceLeDiff, reduceEqDiff, reduceAdd, reduceMul, reduceSub, ↓reduceIte, eq_self, e0, d3, Bool.not_true]))
    refine ((parseC _ (digX k) hh (by omega) (by omega)).call P).mono P ?_
    rintro v h2 ⟨rfl, o2⟩
    repeat' (first | ((with_reducible refine st1 ?_); (conv => whnf); (with_reducible refine ⟨?_⟩)) | ((with_reducible refine st_dw ?_ rfl rfl ?_ ?_); exact rfl; kernel_rfl; (conv => arg 5; whnf); (conv => arg 3; whnf)) | ((with_reducible refine retW_intro rfl ?_); (conv => arg 2; whnf)) | ((with_reducible first | refine iB ?_ ?_ | refine gWt ?_ ?_ | refine gWf ?_ ?_ | refine gXt ?_ ?_ | refine gXf ?_ ?_) <;> intro hb <;> (try simp only [hb])) | ((with_reducible show drawI _ _ _ _ _ _ _ _ _); first | ((with_reducible refine kI_rd ?_ ?_); exact rfl) | ((with_reducible apply kI_rg); exact rfl; exact rfl) | ((with_reducible refine kI_cv ?_ ?_ ?_); exact rfl; kernel_rfl) | ((with_reducible apply kI_al); exact rfl; exact rfl) | ((with_reducible refine kI_ex ?_ ?_ ?_ ?_ ?_); exact rfl; kernel_rfl; exact rfl) | ((with_reducible apply kI_eg); exact rfl; kernel_rfl; exact rfl) | ((with_reducible refine kI_nl ?_ ?_))) | ((with_reducible show eOk _ _ _ _ _ _); first | (exact eok_nil) | (refine ke_rd ?_ ?_ ?_; exact rfl) | (apply ke_rg; exact rfl; exact rfl) | (refine ke_cv ?_ ?_ ?_ ?_; exact rfl; kernel_rfl) | (apply ke_fl; exact rfl) | (apply ke_al; exact rfl; exact rfl)) | ((with_reducible refine freshIs_new ?_); kernel_rfl) | (simp only [B, xB, F, reduceLT, reduceLeDiff, reduceEqDiff, reduceAdd, reduceMul, reduceSub, ↓reduceIte, eq_self, eqI]))
    refine ⟨numX (digX k), ⟨by rw [hc]; rfl, o1.t o2⟩, fun c e => by rw [hc] at e; exact Option.some.inj e⟩
   ·have d3 : decide (r = []) = false := decide_eq_false q3
    have hc : cliOf k = none:= by unfold cliOf; rw [if_neg (fun e => q3 (hr.2 e.2.2))]
    repeat' (first | ((with_reducible refine st1 ?_); (conv => whnf); (with_reducible refine ⟨?_⟩)) | ((with_reducible refine retW_intro rfl ?_); (conv => arg 2; whnf)) | ((with_reducible first | refine iB ?_ ?_ | refine gWt ?_ ?_ | refine gWf ?_ ?_) <;> intro hb <;> (try simp only [hb])) | (simp only [B, xB, F, reduceLT, reduceLeDiff, reduceEqDiff, reduceAdd, reduceMul, reduceSub, ↓reduceIte, eq_self, e0, d3, Bool.not_false]))
    refine ⟨0, ⟨by rw [hc]; rfl, o1⟩, fun c e => by rw [hc] at e; cases e⟩
  ·have d2 : decide (x = 115) = false := decide_eq_false q2
   have hc : cliOf k = none:= by unfold cliOf; rw [if_neg (fun e => q2 (by rw [hx] at e; exact Option.some.inj e.2.1))]
   refine pushC_of_codeW (fn := Tryz.f18) (c := bodyC Tryz.f18) Tryz.func18 rfl ?_
   show codeW P 18 28 none _ _ _ _ _
   refine codeW_root ?_
   repeat' (first | ((with_reducible refine st1 ?_); (conv => whnf); (with_reducible refine ⟨?_⟩)) | ((with_reducible refine retW_intro rfl ?_); (conv => arg 2; whnf)) | ((with_reducible first | refine iB ?_ ?_ | refine gWt ?_ ?_ | refine gWf ?_ ?_) <;> intro hb <;> (try simp only [hb])) | (simp only [B, xB, F, reduceLT, reduceLeDiff, reduceEqDiff, reduceAdd, reduceMul, reduceSub, ↓reduceIte, eq_self, d1, ix, d2, Bool.not_true, Bool.not_false]))
   refine ⟨0, ⟨by rw [hc]; rfl, Og.refl _ _⟩, fun c e => by rw [hc] at e; cases e⟩
 ·have d1 : decide (k.length = 16) = false := decide_eq_false q1
  have hc : cliOf k = none:= by unfold cliOf; rw [if_neg (fun e => q1 e.1)]
  refine pushC_of_codeW (fn := Tryz.f18) (c := bodyC Tryz.f18) Tryz.func18 rfl ?_
  show codeW P 18 28 none _ _ _ _ _
  refine codeW_root ?_
  repeat' (first | ((with_reducible refine st1 ?_); (conv => whnf); (with_reducible refine ⟨?_⟩)) | ((with_reducible refine retW_intro rfl ?_); (conv => arg 2; whnf)) | ((with_reducible first | refine iB ?_ ?_ | refine gWt ?_ ?_ | refine gWf ?_ ?_) <;> intro hb <;> (try simp only [hb])) | (simp only [B, xB, F, reduceLT, reduceLeDiff, reduceEqDiff, reduceAdd, reduceMul, reduceSub, ↓reduceIte, eq_self, d1, Bool.not_false]))
  refine ⟨0, ⟨by rw [hc]; rfl, Og.refl _ _⟩, fun c e => by rw [hc] at e; cases e⟩
end
end Go.Proofs.YtllmfnedkhiomaaGreatDoor.S

namespace Go.Proofs.YtllmfnedkhiomaaGreatDoor.S
open Go Go.AX
noncomputable section
set_option maxRecDepth 100000
def num256 (s : List Nat) : Nat := s.foldl (fun n c => n * 256 + c) 0
def rdNum : List Nat → Option (Nat × List Nat)
 | [] => none
 | x :: r => if x < 248 then some (x, r) else if r.length < x - 247 ∨ r[0]? = some 0 ∨ num256 (r.take (x - 247)) < 248 then none else some (num256 (r.take (x - 247)), r.drop (x - 247))
def numR (s : List Nat) (bad : Bool) : Nat × List Nat × Bool :=
 match rdNum s with
 | some (n, r) => (n, r, bad)
 | none => (0, [], true)
def textR (s : List Nat) (bad : Bool) : List Nat × List Nat × Bool :=
 if (numR s bad).2.1.length < (numR s bad).1 then ([], [], true) else ((numR s bad).2.1.take (numR s bad).1, (numR s bad).2.1.drop (numR s bad).1, (numR s bad).2.2)
structure RdAt (h : H) (b : Nat) (s : List Nat) (bad : Bool) : Prop where
 lt : b < h.nx
 c0 : cellAt h b 0 = some (.str s)
 c1 : cellAt h b 1 = some (.bool bad)
 wr : wrAt h b = true
theorem RdAt.keep {h h' : H} {b : Nat} {s : List Nat} {bad : Bool} (k : RdAt h b s bad) {S : List Nat} (o : Og h h' S) (hb : b ∉ S) : RdAt h' b s bad :=
 ⟨Nat.lt_of_lt_of_le k.lt o.1.1, kc k.c0 o k.lt hb, kc k.c1 o k.lt hb, kw k.wr o k.lt hb⟩
theorem RdAt.set {h : H} {b : Nat} {s : List Nat} {bad : Bool} (k : RdAt h b s bad) (s' : List Nat) : RdAt (h.sts b 0 [.str s']) b s' bad :=
 ⟨by rw [nx_sts]; exact k.lt, by rw [cellAt_sts k.wr, if_pos ⟨rfl, Nat.zero_le _, by simp⟩]; rfl, by rw [cellAt_sts k.wr, if_neg (by simp)]; exact k.c1, by rw [wrAt_sts]; exact k.wr⟩
theorem RdAt.bad {h : H} {b : Nat} {s : List Nat} {bad : Bool} (k : RdAt h b s bad) : RdAt (h.sts b 0 [.str [], .bool true]) b [] true :=
 ⟨by rw [nx_sts]; exact k.lt, by rw [cellAt_sts k.wr, if_pos ⟨rfl, Nat.zero_le _, by simp⟩]; rfl, by rw [cellAt_sts k.wr, if_pos ⟨rfl, Nat.zero_le _, by simp⟩]; rfl, by rw [wrAt_sts]; exact k.wr⟩
structure NumPost (h0 : H) (b : Nat) (x : Nat × List Nat × Bool) (v : AV) (h' : H) : Prop where
 v : v = .int .u64 (.ofNat x.1)
 rd : RdAt h' b x.2.1 x.2.2
 oo : Og h0 h' [b]
theorem Og.s1 {h h1 h2 : H} {S : List Nat} (a : Og h h1 []) (b : Og h1 h2 S) : Og h h2 S := ⟨⟨Nat.le_trans a.1.1 b.1.1, fun c hc hn => (b.1.2 c (Nat.lt_of_lt_of_le hc a.1.1) hn).trans (a.1.2 c hc (by simp))⟩, b.2.trans a.2⟩
theorem Og.s2 {h h1 h2 : H} {S : List Nat} (a : Og h h1 S) (b : Og h1 h2 S) : Og h h2 S := ⟨⟨Nat.le_trans a.1.1 b.1.1, fun c hc hn => (b.1.2 c (Nat.lt_of_lt_of_le hc a.1.1) hn).trans (a.1.2 c hc hn)⟩, b.2.trans a.2⟩
theorem cut_hiK (s : List Nat) (n : Nat) (kd : IntKind) (hn : n ≤ s.length) : sliceA P 9 (.str s) none (some (.int kd (.ofNat n))) none = some (.str (s.take n)) := by
 have hb : Nat.ble n s.length = true:= by rw [Nat.ble_eq]; exact hn
 simp only [sliceA, u9a, sliceStr, bndO, bnd, lenL_eq, hb, List.drop_zero, Nat.ble]
theorem cut_loK (s : List Nat) (n : Nat) (kd : IntKind) (hn : n ≤ s.length) : sliceA P 9 (.str s) (some (.int kd (.ofNat n))) none none = some (.str (s.drop n)) := by
 have hb : Nat.ble n s.length = true:= by rw [Nat.ble_eq]; exact hn
 simp only [sliceA, u9a, sliceStr, bndO, bnd, lenL_eq, hb, List.take_length]
theorem wrongC (h0 : H) (c b : Nat) (s : List Nat) (bad : Bool) (hc : cellAt h0 c 0 = some (.ptr b 0)) (k : RdAt h0 b s bad) : PushC P (.enter 58 [.ptr c 0] h0) (NumPost h0 b (0, [], true)) := by
 have e0 : bytesOf { data := #[] } = [] := rfl
 have c0 := k.c0
 have c1 := k.c1
 have wr := k.wr
 refine pushC_of_codeW (fn := Tryz.f58) (c := bodyC Tryz.f58) Tryz.func58 rfl ?_
 show codeW P 58 5 none _ _ _ _ _
 refine codeW_root ?_
 repeat' (first | ((with_reducible refine st1 ?_); (conv => whnf); (with_reducible refine ⟨?_⟩)) | ((with_reducible refine retW_intro rfl ?_); (conv => arg 2; whnf)) | ((with_reducible first | refine iB ?_ ?_ | refine gWt ?_ ?_ | refine gWf ?_ ?_) <;> intro hb <;> (try simp only [hb])) | (simp only [B, F, reduceLT, reduceLeDiff, reduceEqDiff, reduceAdd, reduceMul, reduceSub, ↓reduceIte, eq_self, hc, e0, c0, c1, wr]))
 exact ⟨rfl, k.bad, (Og.refl _ _).sts (.inl (by simp))⟩
theorem rdNum_at {s : List Nat} {x : Nat} (h : s[0]? = some x) : rdNum s = if x < 248 then some (x, s.drop 1) else if (s.drop 1).length < x - 247 ∨ (s.drop 1)[0]? = some 0 ∨ num256 ((s.drop 1).take (x - 247)) < 248 then none else some (num256 ((s.drop 1).take (x - 247)), (s.drop 1).drop (x - 247)) := by
 cases s with
 | nil => cases h
 | cons y r => simp at h; subst h; rfl
theorem num256_s {s : List Nat} {i x : Nat} (h : s[i]? = some x) : num256 (s.take (i + 1)) = num256 (s.take i) * 256 + x := by
 unfold num256
 rw [List.take_add_one, h, List.foldl_append]; rfl
theorem num256_lt : ∀ (s : List Nat), isBy s → num256 s < 256 ^ s.length := by
 intro s
 have key : ∀ (s : List Nat) (a k : Nat), isBy s → a < 256 ^ k → s.foldl (fun n c => n * 256 + c) a < 256 ^ (k + s.length) := by
  intro s
  induction s with
  | nil => intro a k _ h; exact h
  | cons c s ih =>
   intro a k hs ha
   have hc := hs c (by simp)
   have := ih (a * 256 + c) (k + 1) (fun d hd => hs d (by simp [hd])) (by rw [Nat.pow_succ]; omega)
   rw [List.length_cons, show k + (s.length + 1) = k + 1 + s.length by omega]
   exact this
 intro hs
 have := key s 0 0 hs (by simp)
 rwa [Nat.zero_add] at this
theorem or256 {n x : Nat} (hn : n < 72057594037927936) (hx : x < 256) : wrapF .u64 (.ofNat (Nat.lor (low .u64 (Int.ofNat (n * 256))) (low .u64 (Int.ofNat x)))) = Int.ofNat (n * 256 + x) := by
 have h1 : ∀ u : Nat, u < M64 → low .u64 (Int.ofNat u) = u := fun u hu => by
  unfold low
  show (Int.emod (u : Int) ((modF .u64 : Nat) : Int)).toNat = u
  have : ((u : Int)).emod ((modF .u64 : Nat) : Int) = ((u % modF .u64 : Nat) : Int) := rfl
  rw [this, Int.toNat_natCast]; exact Nat.mod_eq_of_lt hu
 have hM : M64 = 18446744073709551616 := rfl
 rw [h1 _ (by omega), h1 _ (by omega)]
 have h3 : Nat.lor (n * 256) x = n * 256 + x := by
  show n * 256 ||| x = _
  have := Nat.shiftLeft_add_eq_or_of_lt (i := 8) (b := x) (by simpa using hx) n
  rw [Nat.shiftLeft_eq] at this
  exact this.symm
 rw [h3]; exact u64_nat (by omega)
structure RnI (h1 : H) (b : Nat) (s : List Nat) (k : Nat) (m : Nat) (ds : List Nat) (tm : T AV) (h : H) (i : Nat) : Prop where
 ds : ds = []
 nn : m = k - i
 ii : i ≤ k
 t1 : tm.get 1 = some (.ptr b 0)
 t2 : tm.get 2 = some (.int .u64 (.ofNat (num256 (s.take i))))
 t3 : tm.get 3 = some (.func 58 [] [.ptr b 0])
 t5 : tm.get 5 = some (.str s)
 t6 : tm.get 6 = some (.int .i64 (.ofNat k))
 t50 : tm.get 50 = some (.int .i64 (.ofNat k))
 t51 : tm.get 51 = some (.int .i64 (.ofNat i))
 hh : h = h1
set_option maxHeartbeats 4000000 in
theorem numC (h0 : H) (b : Nat) (s : List Nat) (bad : Bool) (k : RdAt h0 b s bad) (hs : isBy s) (hz : s.length < 1000000) : PushC P (.enter 35 [.ptr b 0] h0) (NumPost h0 b (numR s bad)) := by
 have e0 : bytesOf { data := #[] } = [] := rfl
 obtain ⟨h1, h1e⟩ : ∃ h1, h1 = h0.newCells 89 [.ptr b 0] := ⟨_, rfl⟩
 have o1 : Og h0 h1 []:= by rw [h1e]; exact (Og.refl _ _).new _ _
 have x1 : h1.nx = h0.nx + 1:= by rw [h1e]; rfl
 have cb : cellAt h1 h0.nx 0 = some (.ptr b 0):= by rw [h1e, cellAt_new, if_pos rfl]; rfl
 have k1 := k.keep o1 (by simp)
 have c0 := k1.c0
 have c1 := k1.c1
 have wr := k1.wr
 by_cases q0 : s = []
 ·have d0 : decide (s = []) = true := decide_eq_true q0
  have hr : numR s bad = (0, [], true):= by rw [q0]; rfl
  rw [hr]
  refine pushC_of_codeW (fn := Tryz.f35) (c := bodyC Tryz.f35) Tryz.func35 rfl ?_
  show codeW P 35 73 none _ _ _ _ _
  refine codeW_root ?_
  repeat' (first | ((with_reducible refine st1 ?_); (conv => whnf); (with_reducible refine ⟨?_⟩)) | ((with_reducible refine retW_intro rfl ?_); (conv => arg 2; whnf)) | ((with_reducible first | refine iB ?_ ?_ | refine gWt ?_ ?_ | refine gWf ?_ ?_) <;> intro hb <;> (try simp only [hb])) | (simp only [B, xB, F, reduceLT, reduceLeDiff, reduceEqDiff, reduceAdd, reduceMul, reduceSub, ↓reduceIte, eq_self, e0, ← h1e, cb, c0, d0]))
  refine ((wrongC h1 h0.nx b s bad cb k1).call P).mono P ?_
  rintro v h2 ⟨rfl, rd, o2⟩
  repeat' (first | ((with_reducible refine st1 ?_); (conv => whnf); (with_reducible refine ⟨?_⟩)) | ((with_reducible refine retW_intro rfl ?_); (conv => arg 2; whnf)) | ((with_reducible first | refine iB ?_ ?_ | refine gWt ?_ ?_ | refine gWf ?_ ?_) <;> intro hb <;> (try simp only [hb])) | (simp only [B, xB, F, reduceLT, reduceLeDiff, reduceEqDiff, reduceAdd, reduceMul, reduceSub, ↓reduceIte, eq_self]))
  exact ⟨rfl, rd, o1.s1 o2⟩
 have d0 : decide (s = []) = false := decide_eq_false q0
 obtain ⟨x, hx⟩ : ∃ x, s[0]? = some x := by
  cases s with
  | nil => exact absurd rfl q0
  | cons y r => exact ⟨y, rfl⟩
 have hp : 0 < s.length:= by rcases Nat.eq_zero_or_pos s.length with q | q; exact absurd (List.length_eq_zero_iff.1 q) q0; exact q
 have ix := ix_str hx .i64
 have cl := cut_loK s 1 .i64 (by omega)
 have hx256 : x < 256 := hs x (List.mem_of_getElem? hx)
 have hrd := rdNum_at hx
 obtain ⟨r, hr⟩ : ∃ r, r = s.drop 1 := ⟨_, rfl⟩
 rw [← hr] at cl hrd
 have hrb : isBy r := fun c hc => hs c (by rw [hr] at hc; exact List.mem_of_mem_drop hc)
 have hrl : r.length < 1000000:= by rw [hr, List.length_drop]; omega
 by_cases q1 : x < 248
 ·have d1 : decide (x < 248) = true := decide_eq_true q1
  rw [if_pos q1] at hrd
  have wx : wrapF .u64 (Int.ofNat x) = Int.ofNat x := u64_nat (by omega)
  have hR : numR s bad = (x, r, bad):= by unfold numR; rw [hrd]
  rw [hR]
  refine pushC_of_codeW (fn := Tryz.f35) (c := bodyC Tryz.f35) Tryz.func35 rfl ?_
  show codeW P 35 73 none _ _ _ _ _
  refine codeW_root ?_
  repeat' (first | ((with_reducible refine st1 ?_); (conv => whnf); (with_reducible refine ⟨?_⟩)) | ((with_reducible refine st_dw ?_ rfl rfl ?_ ?_); exact rfl; kernel_rfl; (conv => arg 5; whnf); (conv => arg 3; whnf)) | ((with_reducible refine retW_intro rfl ?_); (conv => arg 2; whnf)) | ((with_reducible first | refine iB ?_ ?_ | refine gWt ?_ ?_ | refine gWf ?_ ?_ | refine gXt ?_ ?_ | refine gXf ?_ ?_) <;> intro hb <;> (try simp only [hb])) | ((with_reducible show drawI _ _ _ _ _ _ _ _ _); first | ((with_reducible refine kI_rd ?_ ?_); exact rfl) | ((with_reducible apply kI_rg); exact rfl; exact rfl) | ((with_reducible refine kI_cv ?_ ?_ ?_); exact rfl; kernel_rfl) | ((with_reducible apply kI_al); exact rfl; exact rfl) | ((with_reducible refine kI_ex ?_ ?_ ?_ ?_ ?_); exact rfl; kernel_rfl; exact rfl) | ((with_reducible apply kI_eg); exact rfl; kernel_rfl; exact rfl) | ((with_reducible refine kI_nl ?_ ?_))) | ((with_reducible show eOk _ _ _ _ _ _); first | (exact eok_nil) | (refine ke_rd ?_ ?_ ?_; exact rfl) | (apply ke_rg; exact rfl; exact rfl) | (refine ke_cv ?_ ?_ ?_ ?_; exact rfl; kernel_rfl) | (apply ke_fl; exact rfl) | (apply ke_al; exact rfl; exact rfl)) | ((with_reducible refine freshIs_new ?_); kernel_rfl) | (simp only [B, xB, F, reduceLT, reduceLeDiff, reduceEqDiff, reduceAdd, reduceMul, reduceSub, ↓reduceIte, eq_self, e0, ← h1e, cb, c0, c1, d0, ix, @ex_sl_l, cl, d1, wr, wx]))
  exact ⟨rfl, k1.set r, ((o1.s1 (Og.refl _ [b])).sts (.inl (by simp)))⟩
 have d1 : decide (x < 248) = false := decide_eq_false q1
 rw [if_neg q1] at hrd
 obtain ⟨kk, hkk⟩ : ∃ kk, kk = x - 247 := ⟨_, rfl⟩
 rw [← hkk] at hrd
 have wk0 : wrapF .i64 (Int.ofNat x) = Int.ofNat x := by
  have := i64_add (a := x) (b := 0) (by omega)
  simpa using this
 have wk : wrapF .i64 (Int.ofNat x - Int.ofNat 247) = Int.ofNat kk:= by rw [hkk]; exact i64_sub (by omega) (by omega)
 by_cases q2 : r.length < kk
 ·have d2 : decide (r.length < kk) = true := decide_eq_true q2
  rw [if_pos (.inl q2)] at hrd
  have hR : numR s bad = (0, [], true):= by unfold numR; rw [hrd]
  rw [hR]
  refine pushC_of_codeW (fn := Tryz.f35) (c := bodyC Tryz.f35) Tryz.func35 rfl ?_
  show codeW P 35 73 none _ _ _ _ _
  refine codeW_root ?_
  repeat' (first | ((with_reducible refine st1 ?_); (conv => whnf); (with_reducible refine ⟨?_⟩)) | ((with_reducible refine st_dw ?_ rfl rfl ?_ ?_); exact rfl; kernel_rfl; (conv => arg 5; whnf); (conv => arg 3; whnf)) | ((with_reducible refine retW_intro rfl ?_); (conv => arg 2; whnf)) | ((with_reducible first | refine iB ?_ ?_ | refine gWt ?_ ?_ | refine gWf ?_ ?_ | refine gXt ?_ ?_ | refine gXf ?_ ?_) <;> intro hb <;> (try simp only [hb])) | ((with_reducible show drawI _ _ _ _ _ _ _ _ _); first | ((with_reducible refine kI_rd ?_ ?_); exact rfl) | ((with_reducible apply kI_rg); exact rfl; exact rfl) | ((with_reducible refine kI_cv ?_ ?_ ?_); exact rfl; kernel_rfl) | ((with_reducible apply kI_al); exact rfl; exact rfl) | ((with_reducible refine kI_ex ?_ ?_ ?_ ?_ ?_); exact rfl; kernel_rfl; exact rfl) | ((with_reducible apply kI_eg); exact rfl; kernel_rfl; exact rfl) | ((with_reducible refine kI_nl ?_ ?_))) | ((with_reducible show eOk _ _ _ _ _ _); first | (exact eok_nil) | (refine ke_rd ?_ ?_ ?_; exact rfl) | (apply ke_rg; exact rfl; exact rfl) | (refine ke_cv ?_ ?_ ?_ ?_; exact rfl; kernel_rfl) | (apply ke_fl; exact rfl) | (apply ke_al; exact rfl; exact rfl)) | ((with_reducible refine freshIs_new ?_); kernel_rfl) | (simp only [B, xB, F, reduceLT, reduceLeDiff, reduceEqDiff, reduceAdd, reduceMul, reduceSub, ↓reduceIte, eq_self, e0, ← h1e, cb, c0, c1, d0, ix, @ex_sl_l, cl, d1, wr, wk0, wk, d2]))
  refine ((wrongC h1 h0.nx b s bad cb k1).call P).mono P ?_
  rintro v h2 ⟨rfl, rd, o2⟩
  repeat' (first | ((with_reducible refine st1 ?_); (conv => whnf); (with_reducible refine ⟨?_⟩)) | ((with_reducible refine retW_intro rfl ?_); (conv => arg 2; whnf)) | ((with_reducible first | refine iB ?_ ?_ | refine gWt ?_ ?_ | refine gWf ?_ ?_) <;> intro hb <;> (try simp only [hb])) | (simp only [B, xB, F, reduceLT, reduceLeDiff, reduceEqDiff, reduceAdd, reduceMul, reduceSub, ↓reduceIte, eq_self]))
  exact ⟨rfl, rd, o1.s1 o2⟩
 have d2 : decide (r.length < kk) = false := decide_eq_false q2
 obtain ⟨y, hy⟩ : ∃ y, r[0]? = some y := ⟨_, List.getElem?_eq_getElem (by omega)⟩
 have iy := ix_str hy .i64
 by_cases q3 : y = 0
 ·have d3 : decide (y = 0) = true := decide_eq_true q3
  rw [if_pos (.inr (.inl (by rw [hy, q3])))] at hrd
  have hR : numR s bad = (0, [], true):= by unfold numR; rw [hrd]
  rw [hR]
  refine pushC_of_codeW (fn := Tryz.f35) (c := bodyC Tryz.f35) Tryz.func35 rfl ?_
  show codeW P 35 73 none _ _ _ _ _
  refine codeW_root ?_
  repeat' (first | ((with_reducible refine st1 ?_); (conv => whnf); (with_reducible refine ⟨?_⟩)) | ((with_reducible refine st_dw ?_ rfl rfl ?_ ?_); exact rfl; kernel_rfl; (conv => arg 5; whnf); (conv => arg 3; whnf)) | ((with_reducible refine retW_intro rfl ?_); (conv => arg 2; whnf)) | ((with_reducible first | refine iB ?_ ?_ | refine gWt ?_ ?_ | refine gWf ?_ ?_ | refine gXt ?_ ?_ | refine gXf ?_ ?_) <;> intro hb <;> (try simp only [hb])) | ((with_reducible show drawI _ _ _ _ _ _ _ _ _); first | ((with_reducible refine kI_rd ?_ ?_); exact rfl) | ((with_reducible apply kI_rg); exact rfl; exact rfl) | ((with_reducible refine kI_cv ?_ ?_ ?_); exact rfl; kernel_rfl) | ((with_reducible apply kI_al); exact rfl; exact rfl) | ((with_reducible refine kI_ex ?_ ?_ ?_ ?_ ?_); exact rfl; kernel_rfl; exact rfl) | ((with_reducible apply kI_eg); exact rfl; kernel_rfl; exact rfl) | ((with_reducible refine kI_nl ?_ ?_))) | ((with_reducible show eOk _ _ _ _ _ _); first | (exact eok_nil) | (refine ke_rd ?_ ?_ ?_; exact rfl) | (apply ke_rg; exact rfl; exact rfl) | (refine ke_cv ?_ ?_ ?_ ?_; exact rfl; kernel_rfl) | (apply ke_fl; exact rfl) | (apply ke_al; exact rfl; exact rfl)) | ((with_reducible refine freshIs_new ?_); kernel_rfl) | (simp only [B, xB, F, reduceLT, reduceLeDiff, reduceEqDiff, reduceAdd, reduceMul, reduceSub, ↓reduceIte, eq_self, e0, ← h1e, cb, c0, c1, d0, ix, @ex_sl_l, cl, d1, wr, wk0, wk, d2, iy, d3]))
  refine ((wrongC h1 h0.nx b s bad cb k1).call P).mono P ?_
  rintro v h2 ⟨rfl, rd, o2⟩
  repeat' (first | ((with_reducible refine st1 ?_); (conv => whnf); (with_reducible refine ⟨?_⟩)) | ((with_reducible refine retW_intro rfl ?_); (conv => arg 2; whnf)) | ((with_reducible first | refine iB ?_ ?_ | refine gWt ?_ ?_ | refine gWf ?_ ?_) <;> intro hb <;> (try simp only [hb])) | (simp only [B, xB, F, reduceLT, reduceLeDiff, reduceEqDiff, reduceAdd, reduceMul, reduceSub, ↓reduceIte, eq_self]))
  exact ⟨rfl, rd, o1.s1 o2⟩
 have d3 : decide (y = 0) = false := decide_eq_false q3
 refine pushC_of_codeW (fn := Tryz.f35) (c := bodyC Tryz.f35) Tryz.func35 rfl ?_
 show codeW P 35 73 none _ _ _ _ _
 refine codeW_root ?_
 repeat' (first | ((with_reducible refine st1 ?_); (conv => whnf); (with_reducible refine ⟨?_⟩)) | ((with_reducible refine st_dw ?_ rfl rfl ?_ ?_); exact rfl; kernel_rfl; (conv => arg 5; whnf); (conv => arg 3; whnf)) | ((with_reducible refine retW_intro rfl ?_); (conv => arg 2; whnf)) | ((with_reducible first | refine iB ?_ ?_ | refine gWt ?_ ?_ | refine gWf ?_ ?_ | refine gXt ?_ ?_ | refine gXf ?_ ?_) <;> intro hb <;> (try simp only [hb])) | ((with_reducible show drawI _ _ _ _ _ _ _ _ _); first | ((with_reducible refine kI_rd ?_ ?_); exact rfl) | ((with_reducible apply kI_rg); exact rfl; exact rfl) | ((with_reducible refine kI_cv ?_ ?_ ?_); exact rfl; kernel_rfl) | ((with_reducible apply kI_al); exact rfl; exact rfl) | ((with_reducible refine kI_ex ?_ ?_ ?_ ?_ ?_); exact rfl; kernel_rfl; exact rfl) | ((with_reducible apply kI_eg); exact rfl; kernel_rfl; exact rfl) | ((with_reducible refine kI_nl ?_ ?_))) | ((with_reducible show eOk _ _ _ _ _ _); first | (exact eok_nil) | (refine ke_rd ?_ ?_ ?_; exact rfl) | (apply ke_rg; exact rfl; exact rfl) | (refine ke_cv ?_ ?_ ?_ ?_; exact rfl; kernel_rfl) | (apply ke_fl; exact rfl) | (apply ke_al; exact rfl; exact rfl)) | ((with_reducible refine freshIs_new ?_); kernel_rfl) | (simp only [B, xB, F, reduceLT, reduceLeDiff, reduceEqDiff, reduceAdd, reduceMul, reduceSub, ↓reduceIte, eq_self, e0, ← h1e, cb, c0, c1, d0, ix, @ex_sl_l, cl, d1, wr, wk0, wk, d2, iy, d3]))
 refine st_loop (fun m ds tm h => ∃ i, RnI h1 h0.nx r kk m ds tm h i) kk rfl ⟨0, rfl, rfl, Nat.zero_le _, by simp only [B, xB, F, reduceLT, reduceLeDiff, reduceEqDiff, reduceAdd, reduceMul, reduceSub, ↓reduceIte, eq_self], by simp only [B, xB, F, reduceLT, reduceLeDiff, reduceEqDiff, reduceAdd, reduceMul, reduceSub, ↓reduceIte, eq_self]; rfl, by simp only [B, xB, F, reduceLT, reduceLeDiff, reduceEqDiff, reduceAdd, reduceMul, reduceSub, ↓reduceIte, eq_self], by simp only [B, xB, F, reduceLT, reduceLeDiff, reduceEqDiff, reduceAdd, reduceMul, reduceSub, ↓reduceIte, eq_self], by simp only [B, xB, F, reduceLT, reduceLeDiff, reduceEqDiff, reduceAdd, reduceMul, reduceSub, ↓reduceIte, eq_self], by simp only [B, xB, F, reduceLT, reduceLeDiff, reduceEqDiff, reduceAdd, reduceMul, reduceSub, ↓reduceIte, eq_self], by simp only [B, xB, F, reduceLT, reduceLeDiff, reduceEqDiff, reduceAdd, reduceMul, reduceSub, ↓reduceIte, eq_self], rfl⟩ (fun m ds tm h hI => ?_)
 obtain ⟨i, rfl, rfl, ii, t1, t2, t3, t5, t6, t50, t51, rfl⟩ := hI
 by_cases hi : i < kk
 ·have di : decide (i < kk) = true := decide_eq_true hi
  obtain ⟨z, hz1⟩ : ∃ z, r[i]? = some z := ⟨_, List.getElem?_eq_getElem (by omega)⟩
  have iz := ix_str hz1 .i64
  have hz256 : z < 256 := hrb z (List.mem_of_getElem? hz1)
  have hsn := num256_s hz1
  obtain ⟨n, hn⟩ : ∃ n, n = num256 (r.take i) := ⟨_, rfl⟩
  rw [← hn] at t2 hsn
  have hlt : n < 256 ^ 7 := by
   rw [hn]
   refine Nat.lt_of_lt_of_le (num256_lt (r.take i) (fun c hc => hrb c (List.mem_of_mem_take hc))) (Nat.pow_le_pow_right (by omega) ?_)
   rw [List.length_take]; omega
  have h7 : (256 : Nat) ^ 7 = 72057594037927936:= by decide
  rw [h7] at hlt
  have wsh : wrapF .u64 (Int.ofNat n * Int.ofNat (2 ^ min 8 IntKind.u64.bits)) = Int.ofNat (n * 256) := by
   have : Int.ofNat n * Int.ofNat (2 ^ min 8 IntKind.u64.bits) = Int.ofNat (n * 256) := rfl
   rw [this]; exact u64_nat (by omega)
  have wz : wrapF .u64 (Int.ofNat z) = Int.ofNat z := u64_nat (by omega)
  have wo := or256 hlt hz256
  have wi : wrapF .i64 (Int.ofNat i + Int.ofNat 1) = Int.ofNat (i + 1) := i64_add (by omega)
  repeat' (first | ((with_reducible refine st1 ?_); (conv => whnf); (with_reducible refine ⟨?_⟩)) | ((with_reducible refine retW_intro rfl ?_); (conv => arg 2; whnf)) | ((with_reducible first | refine iB ?_ ?_ | refine gWt ?_ ?_ | refine gWf ?_ ?_) <;> intro hb <;> (try simp only [hb])) | (simp only [B, xB, F, reduceLT, reduceLeDiff, reduceEqDiff, reduceAdd, reduceMul, reduceSub, ↓reduceIte, eq_self, t1, t2, t3, t5, t6, t50, t51, di, @b_shl, @b_or, iz, wsh, wz, wo, wi]))
  exact ⟨kk - (i + 1), by omega, i + 1, rfl, rfl, by omega, by simp only [B, xB, F, reduceLT, reduceLeDiff, reduceEqDiff, reduceAdd, reduceMul, reduceSub, ↓reduceIte, eq_self, t1], by rw [hsn]; simp only [B, xB, F, reduceLT, reduceLeDiff, reduceEqDiff, reduceAdd, reduceMul, reduceSub, ↓reduceIte, eq_self], by simp only [B, xB, F, reduceLT, reduceLeDiff, reduceEqDiff, reduceAdd, reduceMul, reduceSub, ↓reduceIte, eq_self, t3], by simp only [B, xB, F, reduceLT, reduceLeDiff, reduceEqDiff, reduceAdd, reduceMul, reduceSub, ↓reduceIte, eq_self, t5], by simp only [B, xB, F, reduceLT, reduceLeDiff, reduceEqDiff, reduceAdd, reduceMul, reduceSub, ↓reduceIte, eq_self, t6], by simp only [B, xB, F, reduceLT, reduceLeDiff, reduceEqDiff, reduceAdd, reduceMul, reduceSub, ↓reduceIte, eq_self, t50], by simp only [B, xB, F, reduceLT, reduceLeDiff, reduceEqDiff, reduceAdd, reduceMul, reduceSub, ↓reduceIte, eq_self], rfl⟩
 ·have di : decide (i < kk) = false := decide_eq_false hi
  obtain rfl : i = kk:= by omega
  by_cases q4 : num256 (r.take i) < 248
  ·have d4 : decide (num256 (r.take i) < 248) = true := decide_eq_true q4
   rw [if_pos (.inr (.inr q4))] at hrd
   have hR : numR s bad = (0, [], true):= by unfold numR; rw [hrd]
   rw [hR]
   repeat' (first | ((with_reducible refine st1 ?_); (conv => whnf); (with_reducible refine ⟨?_⟩)) | ((with_reducible refine retW_intro rfl ?_); (conv => arg 2; whnf)) | ((with_reducible first | refine iB ?_ ?_ | refine gWt ?_ ?_ | refine gWf ?_ ?_) <;> intro hb <;> (try simp only [hb])) | (simp only [B, xB, F, reduceLT, reduceLeDiff, reduceEqDiff, reduceAdd, reduceMul, reduceSub, ↓reduceIte, eq_self, t1, t2, t3, t5, t6, t50, t51, di, d4]))
   refine ((wrongC h h0.nx b s bad cb k1).call P).mono P ?_
   rintro v h2 ⟨rfl, rd, o2⟩
   repeat' (first | ((with_reducible refine st1 ?_); (conv => whnf); (with_reducible refine ⟨?_⟩)) | ((with_reducible refine retW_intro rfl ?_); (conv => arg 2; whnf)) | ((with_reducible first | refine iB ?_ ?_ | refine gWt ?_ ?_ | refine gWf ?_ ?_) <;> intro hb <;> (try simp only [hb])) | (simp only [B, xB, F, reduceLT, reduceLeDiff, reduceEqDiff, reduceAdd, reduceMul, reduceSub, ↓reduceIte, eq_self]))
   exact ⟨rfl, rd, o1.s1 o2⟩
  ·have d4 : decide (num256 (r.take i) < 248) = false := decide_eq_false q4
   rw [if_neg (by rintro (q | q | q); exact absurd q q2; exact q3 (by rw [hy] at q; exact Option.some.inj q); exact q4 q)] at hrd
   have hR : numR s bad = (num256 (r.take i), r.drop i, bad):= by unfold numR; rw [hrd]
   rw [hR]
   have ck := cut_loK r i .i64 (by omega)
   repeat' (first | ((with_reducible refine st1 ?_); (conv => whnf); (with_reducible refine ⟨?_⟩)) | ((with_reducible refine st_dw ?_ rfl rfl ?_ ?_); exact rfl; kernel_rfl; (conv => arg 5; whnf); (conv => arg 3; whnf)) | ((with_reducible refine retW_intro rfl ?_); (conv => arg 2; whnf)) | ((with_reducible first | refine iB ?_ ?_ | refine gWt ?_ ?_ | refine gWf ?_ ?_ | refine gXt ?_ ?_ | refine gXf ?_ ?_) <;> intro hb <;> (try simp only [hb])) | ((with_reducible show drawI _ _ _ _ _ _ _ _ _); first | ((with_reducible refine kI_rd ?_ ?_); exact rfl) | ((with_reducible apply kI_rg); exact rfl; exact rfl) | ((with_reducible refine kI_cv ?_ ?_ ?_); exact rfl; kernel_rfl) | ((with_reducible apply kI_al); exact rfl; exact rfl) | ((with_reducible refine kI_ex ?_ ?_ ?_ ?_ ?_); exact rfl; kernel_rfl; exact rfl) | ((with_reducible apply kI_eg); exact rfl; kernel_rfl; exact rfl) | ((with_reducible refine kI_nl ?_ ?_))) | ((with_reducible show eOk _ _ _ _ _ _); first | (exact eok_nil) | (refine ke_rd ?_ ?_ ?_; exact rfl) | (apply ke_rg; exact rfl; exact rfl) | (refine ke_cv ?_ ?_ ?_ ?_; exact rfl; kernel_rfl) | (apply ke_fl; exact rfl) | (apply ke_al; exact rfl; exact rfl)) | ((with_reducible refine freshIs_new ?_); kernel_rfl) | (simp only [B, xB, F, reduceLT, reduceLeDiff, reduceEqDiff, reduceAdd, reduceMul, reduceSub, ↓reduceIte, eq_self, t1, t2, t3, t5, t6, t50, t51, di, d4, cb, @ex_sl_l, ck, wr, c0]))
   exact ⟨rfl, k1.set _, ((o1.s1 (Og.refl _ [b])).sts (.inl (by simp)))⟩
end
end Go.Proofs.YtllmfnedkhiomaaGreatDoor.S

namespace Go.Proofs.YtllmfnedkhiomaaGreatDoor.S
open Go Go.AX
noncomputable section
set_option maxRecDepth 100000
theorem numR_by {s : List Nat} {bad : Bool} (hs : isBy s) (hz : s.length < 1000000) : isBy (numR s bad).2.1 ∧ (numR s bad).2.1.length < 1000000 ∧ (numR s bad).1 < M64 := by
 have hM : M64 = 18446744073709551616 := rfl
 unfold numR
 cases s with
 | nil => exact ⟨fun c hc => (by cases hc), by simp [rdNum], by simp [rdNum, hM]⟩
 | cons x r =>
  have hx := hs x (by simp)
  have hr : isBy r := fun c hc => hs c (by simp [hc])
  have hrl : r.length < 1000000:= by simp at hz; omega
  have hrd := rdNum_at (s := x :: r) (x := x) rfl
  rw [show (x :: r).drop 1 = r from rfl] at hrd
  rw [hrd]
  by_cases q1 : x < 248
  ·rw [if_pos q1]; exact ⟨hr, hrl, by simp only; omega⟩
  ·rw [if_neg q1]
   by_cases q2 : r.length < x - 247 ∨ r[0]? = some 0 ∨ num256 (List.take (x - 247) r) < 248
   ·rw [if_pos q2]
    exact ⟨fun c hc => (by cases hc), by simp, by simp [hM]⟩
   ·rw [if_neg q2]
    refine ⟨fun c hc => hr c (List.mem_of_mem_drop hc), by simp only [List.length_drop]; omega, ?_⟩
    simp only
    refine Nat.lt_of_lt_of_le (num256_lt _ (fun c hc => hr c (List.mem_of_mem_take hc))) ?_
    have : (256 : Nat) ^ 8 = M64:= by decide
    rw [← this]
    exact Nat.pow_le_pow_right (by omega) (by rw [List.length_take]; omega)
structure TextPost (h0 : H) (b : Nat) (x : List Nat × List Nat × Bool) (v : AV) (h' : H) : Prop where
 v : v = .str x.1
 rd : RdAt h' b x.2.1 x.2.2
 oo : Og h0 h' [b]
theorem textC (h0 : H) (b : Nat) (s : List Nat) (bad : Bool) (k : RdAt h0 b s bad) (hs : isBy s) (hz : s.length < 1000000) : PushC P (.enter 36 [.ptr b 0] h0) (TextPost h0 b (textR s bad)) := by
 have e0 : bytesOf { data := #[] } = [] := rfl
 obtain ⟨hb, hl, hn⟩ := numR_by (bad := bad) hs hz
 have hM : M64 = 18446744073709551616 := rfl
 refine pushC_of_codeW (fn := Tryz.f36) (c := bodyC Tryz.f36) Tryz.func36 rfl ?_
 show codeW P 36 38 none _ _ _ _ _
 refine codeW_root ?_
 repeat' (first | ((with_reducible refine st1 ?_); (conv => whnf); (with_reducible refine ⟨?_⟩)) | ((with_reducible refine retW_intro rfl ?_); (conv => arg 2; whnf)) | ((with_reducible first | refine iB ?_ ?_ | refine gWt ?_ ?_ | refine gWf ?_ ?_) <;> intro hb <;> (try simp only [hb])) | (simp only [B, F, reduceLT, reduceLeDiff, reduceEqDiff, reduceAdd, reduceMul, reduceSub, ↓reduceIte, eq_self, e0]))
 refine ((numC h0 b s bad k hs hz).call P).mono P ?_
 rintro v h1 ⟨rfl, k1, o1⟩
 unfold textR
 obtain ⟨n, hn1⟩ : ∃ n, n = (numR s bad).1 := ⟨_, rfl⟩
 obtain ⟨r, hr1⟩ : ∃ r, r = (numR s bad).2.1 := ⟨_, rfl⟩
 obtain ⟨bd, hb1⟩ : ∃ bd, bd = (numR s bad).2.2 := ⟨_, rfl⟩
 rw [← hn1, ← hr1, ← hb1]
 rw [← hr1, ← hb1] at k1
 rw [← hr1] at hl
 rw [← hn1] at hn
 have c0 := k1.c0
 have c1 := k1.c1
 have wr := k1.wr
 have wl : wrapF .u64 (Int.ofNat r.length) = Int.ofNat r.length := u64_nat (by omega)
 by_cases q : r.length < n
 ·have d1 : decide (r.length < n) = true := decide_eq_true q
  rw [if_pos q]
  repeat' (first | ((with_reducible refine st1 ?_); (conv => whnf); (with_reducible refine ⟨?_⟩)) | ((with_reducible refine retW_intro rfl ?_); (conv => arg 2; whnf)) | ((with_reducible first | refine iB ?_ ?_ | refine gWt ?_ ?_ | refine gWf ?_ ?_) <;> intro hb <;> (try simp only [hb])) | (simp only [B, F, reduceLT, reduceLeDiff, reduceEqDiff, reduceAdd, reduceMul, reduceSub, ↓reduceIte, eq_self, e0, c0, c1, wr, wl, d1]))
  exact ⟨rfl, k1.bad, o1.sts (.inl (by simp))⟩
 ·have d1 : decide (r.length < n) = false := decide_eq_false q
  have ch := cut_hiK r n .u64 (by omega)
  have cl := cut_loK r n .u64 (by omega)
  rw [if_neg q]
  repeat' (first | ((with_reducible refine st1 ?_); (conv => whnf); (with_reducible refine ⟨?_⟩)) | ((with_reducible refine retW_intro rfl ?_); (conv => arg 2; whnf)) | ((with_reducible first | refine iB ?_ ?_ | refine gWt ?_ ?_ | refine gWf ?_ ?_) <;> intro hb <;> (try simp only [hb])) | (simp only [B, F, reduceLT, reduceLeDiff, reduceEqDiff, reduceAdd, reduceMul, reduceSub, ↓reduceIte, eq_self, e0, c0, c1, wr, wl, d1, @ex_sl_h, @ex_sl_l, ch, cl]))
  exact ⟨rfl, k1.set _, o1.sts (.inl (by simp))⟩
theorem okC (h0 : H) (b : Nat) (s : List Nat) (bad : Bool) (k : RdAt h0 b s bad) : PushC P (.enter 59 [.ptr b 0] h0) (SaysG h0 (.bool (!bad))) := by
 have c1 := k.c1
 cases bad with
 | true =>
  refine pushC_of_codeW (fn := Tryz.f59) (c := bodyC Tryz.f59) Tryz.func59 rfl ?_
  show codeW P 59 12 none _ _ _ _ _
  refine codeW_root ?_
  repeat' (first | ((with_reducible refine st1 ?_); (conv => whnf); (with_reducible refine ⟨?_⟩)) | ((with_reducible refine retW_intro rfl ?_); (conv => arg 2; whnf)) | ((with_reducible first | refine iB ?_ ?_ | refine gWt ?_ ?_ | refine gWf ?_ ?_) <;> intro hb <;> (try simp only [hb])) | (simp only [B, F, reduceLT, reduceLeDiff, reduceEqDiff, reduceAdd, reduceMul, reduceSub, ↓reduceIte, eq_self, c1, Bool.not_true]))
  exact ⟨rfl, Og.refl _ _⟩
 | false =>
  refine pushC_of_codeW (fn := Tryz.f59) (c := bodyC Tryz.f59) Tryz.func59 rfl ?_
  show codeW P 59 12 none _ _ _ _ _
  refine codeW_root ?_
  repeat' (first | ((with_reducible refine st1 ?_); (conv => whnf); (with_reducible refine ⟨?_⟩)) | ((with_reducible refine retW_intro rfl ?_); (conv => arg 2; whnf)) | ((with_reducible first | refine iB ?_ ?_ | refine gWt ?_ ?_ | refine gWf ?_ ?_) <;> intro hb <;> (try simp only [hb])) | (simp only [B, F, reduceLT, reduceLeDiff, reduceEqDiff, reduceAdd, reduceMul, reduceSub, ↓reduceIte, eq_self, c1, Bool.not_false]))
  exact ⟨rfl, Og.refl _ _⟩
theorem endC (h0 : H) (b : Nat) (s : List Nat) (bad : Bool) (k : RdAt h0 b s bad) : PushC P (.enter 37 [.ptr b 0] h0) (SaysG h0 (.bool (!bad && decide (s = [])))) := by
 have e0 : bytesOf { data := #[] } = [] := rfl
 refine pushC_of_codeW (fn := Tryz.f37) (c := bodyC Tryz.f37) Tryz.func37 rfl ?_
 show codeW P 37 12 none _ _ _ _ _
 refine codeW_root ?_
 repeat' (first | ((with_reducible refine st1 ?_); (conv => whnf); (with_reducible refine ⟨?_⟩)) | ((with_reducible refine retW_intro rfl ?_); (conv => arg 2; whnf)) | ((with_reducible first | refine iB ?_ ?_ | refine gWt ?_ ?_ | refine gWf ?_ ?_) <;> intro hb <;> (try simp only [hb])) | (simp only [B, F, reduceLT, reduceLeDiff, reduceEqDiff, reduceAdd, reduceMul, reduceSub, ↓reduceIte, eq_self]))
 refine ((okC h0 b s bad k).call P).mono P ?_
 rintro v h1 ⟨rfl, o1⟩
 have c0 := (k.keep o1 (by simp)).c0
 cases bad with
 | true =>
  repeat' (first | ((with_reducible refine st1 ?_); (conv => whnf); (with_reducible refine ⟨?_⟩)) | ((with_reducible refine retW_intro rfl ?_); (conv => arg 2; whnf)) | ((with_reducible first | refine iB ?_ ?_ | refine gWt ?_ ?_ | refine gWf ?_ ?_) <;> intro hb <;> (try simp only [hb])) | (simp only [B, F, reduceLT, reduceLeDiff, reduceEqDiff, reduceAdd, reduceMul, reduceSub, ↓reduceIte, eq_self, Bool.not_true]))
  exact ⟨rfl, o1⟩
 | false =>
  repeat' (first | ((with_reducible refine st1 ?_); (conv => whnf); (with_reducible refine ⟨?_⟩)) | ((with_reducible refine retW_intro rfl ?_); (conv => arg 2; whnf)) | ((with_reducible first | refine iB ?_ ?_ | refine gWt ?_ ?_ | refine gWf ?_ ?_) <;> intro hb <;> (try simp only [hb])) | (simp only [B, F, reduceLT, reduceLeDiff, reduceEqDiff, reduceAdd, reduceMul, reduceSub, ↓reduceIte, eq_self, Bool.not_false, e0, c0]))
  exact ⟨rfl, o1⟩
theorem readerC (h0 : H) (s : List Nat) : PushC P (.enter 34 [.str s] h0) fun v h' => v = .ptr h0.nx 0 ∧ h' = h0.newCells 108 [.str s, .bool false] := by
 refine pushC_of_codeW (fn := Tryz.f34) (c := bodyC Tryz.f34) Tryz.func34 rfl ?_
 show codeW P 34 6 none _ _ _ _ _
 refine codeW_root ?_
 repeat' (first | ((with_reducible refine st1 ?_); (conv => whnf); (with_reducible refine ⟨?_⟩)) | ((with_reducible refine retW_intro rfl ?_); (conv => arg 2; whnf)) | ((with_reducible first | refine iB ?_ ?_ | refine gWt ?_ ?_ | refine gWf ?_ ?_) <;> intro hb <;> (try simp only [hb])) | (simp only [B, F, reduceLT, reduceLeDiff, reduceEqDiff, reduceAdd, reduceMul, reduceSub, ↓reduceIte, eq_self]))
def readV (s : List Nat) : Nat × List Nat := ((numR s false).1, (textR (numR s false).2.1 (numR s false).2.2).1)
def readOk (s : List Nat) : Bool := !(textR (numR s false).2.1 (numR s false).2.2).2.2 && decide ((textR (numR s false).2.1 (numR s false).2.2).2.1 = []) && decide (0 < (readV s).1) && decide ((readV s).2.length ≤ 4000)
theorem readC (h0 : H) (s : List Nat) (hs : isBy s) (hz : s.length < 1000000) : PushC P (.enter 19 [.str s] h0) (SaysG h0 (.tuple [.agg [.int .u64 (.ofNat (readV s).1), .str (readV s).2], .bool (readOk s)])) := by
 have e0 : bytesOf { data := #[] } = [] := rfl
 obtain ⟨hb, hl, hn⟩ := numR_by (bad := false) hs hz
 refine pushC_of_codeW (fn := Tryz.f19) (c := bodyC Tryz.f19) Tryz.func19 rfl ?_
 show codeW P 19 27 none _ _ _ _ _
 refine codeW_root ?_
 repeat' (first | ((with_reducible refine st1 ?_); (conv => whnf); (with_reducible refine ⟨?_⟩)) | ((with_reducible refine retW_intro rfl ?_); (conv => arg 2; whnf)) | ((with_reducible first | refine iB ?_ ?_ | refine gWt ?_ ?_ | refine gWf ?_ ?_) <;> intro hb <;> (try simp only [hb])) | (simp only [B, xB, F, reduceLT, reduceLeDiff, reduceEqDiff, reduceAdd, reduceMul, reduceSub, ↓reduceIte, eq_self, e0]))
 obtain ⟨h1, h1e⟩ : ∃ h1, h1 = h0.newCells 65 [.int .u64 (.ofNat 0), .str []] := ⟨_, rfl⟩
 have o1 : Og h0 h1 []:= by rw [h1e]; exact (Og.refl _ _).new _ _
 rw [← h1e]
 refine ((readerC h1 s).call P).mono P ?_
 rintro v h2 ⟨rfl, rfl⟩
 obtain ⟨h2, h2e⟩ : ∃ h2, h2 = h1.newCells 108 [.str s, .bool false] := ⟨_, rfl⟩
 have o2 : Og h1 h2 []:= by rw [h2e]; exact (Og.refl _ _).new _ _
 have x2 : h2.nx = h1.nx + 1:= by rw [h2e]; rfl
 have x1 : h1.nx = h0.nx + 1:= by rw [h1e]; rfl
 have k2 : RdAt h2 h1.nx s false := ⟨by omega, by rw [h2e, cellAt_new, if_pos rfl]; rfl, by rw [h2e, cellAt_new, if_pos rfl]; rfl, by rw [h2e, wrAt_new, if_pos rfl]⟩
 have z0 : cellAt h2 h0.nx 0 = some (.int .u64 (.ofNat 0)) := kc (b := h0.nx) (i := 0) (h := h1) (by rw [h1e, cellAt_new, if_pos rfl]; rfl) o2 (by omega) (by simp)
 have z1 : cellAt h2 h0.nx 1 = some (.str []) := kc (b := h0.nx) (i := 1) (h := h1) (by rw [h1e, cellAt_new, if_pos rfl]; rfl) o2 (by omega) (by simp)
 have zw : wrAt h2 h0.nx = true := kw (h := h1) (by rw [h1e, wrAt_new, if_pos rfl]) o2 (by omega) (by simp)
 rw [← h2e]
 repeat' (first | ((with_reducible refine st1 ?_); (conv => whnf); (with_reducible refine ⟨?_⟩)) | ((with_reducible refine retW_intro rfl ?_); (conv => arg 2; whnf)) | ((with_reducible first | refine iB ?_ ?_ | refine gWt ?_ ?_ | refine gWf ?_ ?_) <;> intro hb <;> (try simp only [hb])) | (simp only [B, xB, F, reduceLT, reduceLeDiff, reduceEqDiff, reduceAdd, reduceMul, reduceSub, ↓reduceIte, eq_self]))
 refine ((numC h2 h1.nx s false k2 hs hz).call P).mono P ?_
 rintro v h3 ⟨rfl, k3, o3⟩
 repeat' (first | ((with_reducible refine st1 ?_); (conv => whnf); (with_reducible refine ⟨?_⟩)) | ((with_reducible refine retW_intro rfl ?_); (conv => arg 2; whnf)) | ((with_reducible first | refine iB ?_ ?_ | refine gWt ?_ ?_ | refine gWf ?_ ?_) <;> intro hb <;> (try simp only [hb])) | (simp only [B, xB, F, reduceLT, reduceLeDiff, reduceEqDiff, reduceAdd, reduceMul, reduceSub, ↓reduceIte, eq_self]))
 refine ((textC h3 h1.nx _ _ k3 hb hl).call P).mono P ?_
 rintro v h4 ⟨rfl, k4, o4⟩
 have hread : readV s = ((numR s false).1, (textR (numR s false).2.1 (numR s false).2.2).1) := rfl
 unfold readOk
 obtain ⟨n, hn1⟩ : ∃ n, n = (readV s).1 := ⟨_, rfl⟩
 obtain ⟨r, hr1⟩ : ∃ r, r = (readV s).2 := ⟨_, rfl⟩
 rw [← hn1, ← hr1]
 rw [hread] at hn1 hr1
 simp only at hn1 hr1
 rw [← hn1, ← hr1]
 obtain ⟨x, hx⟩ : ∃ x, x = textR (numR s false).2.1 (numR s false).2.2 := ⟨_, rfl⟩
 rw [← hx] at k4 ⊢
 have o34 := o3.s2 o4
 have x4 := o34.1.1
 have y0 := kc z0 o34 (by omega) (by simp; omega)
 have y1 := kc z1 o34 (by omega) (by simp; omega)
 have yw := kw zw o34 (by omega) (by simp; omega)
 obtain ⟨h5, h5e⟩ : ∃ h5, h5 = (h4.newCells 65 [.int .u64 (.ofNat 0), .str []]).sts h4.nx 0 [.int .u64 (.ofNat n), .str r] := ⟨_, rfl⟩
 have o5 : Og h4 h5 []:= by rw [h5e]; exact ((Og.refl _ _).new _ _).sts (.inr (Nat.le_refl _))
 have w0 : cellAt h5 h4.nx 0 = some (.int .u64 (.ofNat n)):= by rw [h5e, cellAt_sts (by rw [wrAt_new, if_pos rfl]), if_pos ⟨rfl, Nat.zero_le _, by simp⟩]; rfl
 have w1 : cellAt h5 h4.nx 1 = some (.str r):= by rw [h5e, cellAt_sts (by rw [wrAt_new, if_pos rfl]), if_pos ⟨rfl, Nat.zero_le _, by simp⟩]; rfl
 have x5 : h5.nx = h4.nx + 1:= by rw [h5e, nx_sts, nx_new]
 have k5 := k4.keep o5 (by simp)
 repeat' (first | ((with_reducible refine st1 ?_); (conv => whnf); (with_reducible refine ⟨?_⟩)) | ((with_reducible refine st_dw ?_ rfl rfl ?_ ?_); exact rfl; kernel_rfl; (conv => arg 5; whnf); (conv => arg 3; whnf)) | ((with_reducible refine retW_intro rfl ?_); (conv => arg 2; whnf)) | ((with_reducible first | refine iB ?_ ?_ | refine gWt ?_ ?_ | refine gWf ?_ ?_ | refine gXt ?_ ?_ | refine gXf ?_ ?_) <;> intro hb <;> (try simp only [hb])) | ((with_reducible show drawI _ _ _ _ _ _ _ _ _); first | ((with_reducible refine kI_rd ?_ ?_); exact rfl) | ((with_reducible apply kI_rg); exact rfl; exact rfl) | ((with_reducible refine kI_cv ?_ ?_ ?_); exact rfl; kernel_rfl) | ((with_reducible apply kI_al); exact rfl; exact rfl) | ((with_reducible refine kI_ex ?_ ?_ ?_ ?_ ?_); exact rfl; kernel_rfl; exact rfl) | ((with_reducible apply kI_eg); exact rfl; kernel_rfl; exact rfl) | ((with_reducible refine kI_nl ?_ ?_))) | ((with_reducible show eOk _ _ _ _ _ _); first | (exact eok_nil) | (refine ke_rd ?_ ?_ ?_; exact rfl) | (apply ke_rg; exact rfl; exact rfl) | (refine ke_cv ?_ ?_ ?_ ?_; exact rfl; kernel_rfl) | (apply ke_fl; exact rfl) | (apply ke_al; exact rfl; exact rfl)) | ((with_reducible refine freshIs_new ?_); kernel_rfl) | (simp only [B, xB, F, reduceLT, reduceLeDiff, reduceEqDiff, reduceAdd, reduceMul, reduceSub, ↓reduceIte, eq_self, ← h5e, w0, w1]))
 refine ((endC h5 h1.nx _ _ k5).call P).mono P ?_
 rintro v h6 ⟨rfl, o6⟩
 have x6 := o6.1.1
 have u0 := kc w0 o6 (by omega) (by simp)
 have u1 := kc w1 o6 (by omega) (by simp)
 have t0 := kc (kc y0 o5 (by omega) (by simp)) o6 (by omega) (by simp)
 have t1 := kc (kc y1 o5 (by omega) (by simp)) o6 (by omega) (by simp)
 have tw := kw (kw yw o5 (by omega) (by simp)) o6 (by omega) (by simp)
 have oo : Og h0 h6 [] := ⟨⟨by omega, fun c hc _ => by rw [o6.1.2 c (by omega) (by simp), o5.1.2 c (by omega) (by simp), o34.1.2 c (by omega) (by simp; omega), o2.1.2 c (by omega) (by simp), o1.1.2 c hc (by simp)]⟩, by rw [o6.2, o5.2, o34.2, o2.2, o1.2]⟩
 have n0 : h0.nx ≠ h1.nx:= by omega
 have n4 : h0.nx ≠ h4.nx:= by omega
 obtain ⟨be, hbe⟩ : ∃ be, be = (!x.2.2 && decide (x.2.1 = [])) := ⟨_, rfl⟩
 rw [← hbe]
 cases be with
 | false =>
  repeat' (first | ((with_reducible refine st1 ?_); (conv => whnf); (with_reducible refine ⟨?_⟩)) | ((with_reducible refine st_dw ?_ rfl rfl ?_ ?_); exact rfl; kernel_rfl; (conv => arg 5; whnf); (conv => arg 3; whnf)) | ((with_reducible refine retW_intro rfl ?_); (conv => arg 2; whnf)) | ((with_reducible first | refine iB ?_ ?_ | refine gWt ?_ ?_ | refine gWf ?_ ?_ | refine gXt ?_ ?_ | refine gXf ?_ ?_) <;> intro hb <;> (try simp only [hb])) | ((with_reducible show drawI _ _ _ _ _ _ _ _ _); first | ((with_reducible refine kI_rd ?_ ?_); exact rfl) | ((with_reducible apply kI_rg); exact rfl; exact rfl) | ((with_reducible refine kI_cv ?_ ?_ ?_); exact rfl; kernel_rfl) | ((with_reducible apply kI_al); exact rfl; exact rfl) | ((with_reducible refine kI_ex ?_ ?_ ?_ ?_ ?_); exact rfl; kernel_rfl; exact rfl) | ((with_reducible apply kI_eg); exact rfl; kernel_rfl; exact rfl) | ((with_reducible refine kI_nl ?_ ?_))) | ((with_reducible show eOk _ _ _ _ _ _); first | (exact eok_nil) | (refine ke_rd ?_ ?_ ?_; exact rfl) | (apply ke_rg; exact rfl; exact rfl) | (refine ke_cv ?_ ?_ ?_ ?_; exact rfl; kernel_rfl) | (apply ke_fl; exact rfl) | (apply ke_al; exact rfl; exact rfl)) | ((with_reducible refine freshIs_new ?_); kernel_rfl) | (simp only [B, xB, F, reduceLT, reduceLeDiff, reduceEqDiff, reduceAdd, reduceMul, reduceSub, ↓reduceIte, eq_self, u0, u1, t0, t1, tw, @ite_self]))
  refine ⟨rfl, oo.sts (.inr (Nat.le_refl _))⟩
 | true =>
  by_cases q1 : 0 < n
  ·have d1 : decide (0 < n) = true := decide_eq_true q1
   repeat' (first | ((with_reducible refine st1 ?_); (conv => whnf); (with_reducible refine ⟨?_⟩)) | ((with_reducible refine st_dw ?_ rfl rfl ?_ ?_); exact rfl; kernel_rfl; (conv => arg 5; whnf); (conv => arg 3; whnf)) | ((with_reducible refine retW_intro rfl ?_); (conv => arg 2; whnf)) | ((with_reducible first | refine iB ?_ ?_ | refine gWt ?_ ?_ | refine gWf ?_ ?_ | refine gXt ?_ ?_ | refine gXf ?_ ?_) <;> intro hb <;> (try simp only [hb])) | ((with_reducible show drawI _ _ _ _ _ _ _ _ _); first | ((with_reducible refine kI_rd ?_ ?_); exact rfl) | ((with_reducible apply kI_rg); exact rfl; exact rfl) | ((with_reducible refine kI_cv ?_ ?_ ?_); exact rfl; kernel_rfl) | ((with_reducible apply kI_al); exact rfl; exact rfl) | ((with_reducible refine kI_ex ?_ ?_ ?_ ?_ ?_); exact rfl; kernel_rfl; exact rfl) | ((with_reducible apply kI_eg); exact rfl; kernel_rfl; exact rfl) | ((with_reducible refine kI_nl ?_ ?_))) | ((with_reducible show eOk _ _ _ _ _ _); first | (exact eok_nil) | (refine ke_rd ?_ ?_ ?_; exact rfl) | (apply ke_rg; exact rfl; exact rfl) | (refine ke_cv ?_ ?_ ?_ ?_; exact rfl; kernel_rfl) | (apply ke_fl; exact rfl) | (apply ke_al; exact rfl; exact rfl)) | ((with_reducible refine freshIs_new ?_); kernel_rfl) | (simp only [B, xB, F, reduceLT, reduceLeDiff, reduceEqDiff, reduceAdd, reduceMul, reduceSub, ↓reduceIte, eq_self, u0, u1, t0, t1, tw, d1, @ite_self]))
   refine ⟨rfl, oo.sts (.inr (Nat.le_refl _))⟩
  ·have d1 : decide (0 < n) = false := decide_eq_false q1
   repeat' (first | ((with_reducible refine st1 ?_); (conv => whnf); (with_reducible refine ⟨?_⟩)) | ((with_reducible refine st_dw ?_ rfl rfl ?_ ?_); exact rfl; kernel_rfl; (conv => arg 5; whnf); (conv => arg 3; whnf)) | ((with_reducible refine retW_intro rfl ?_); (conv => arg 2; whnf)) | ((with_reducible first | refine iB ?_ ?_ | refine gWt ?_ ?_ | refine gWf ?_ ?_ | refine gXt ?_ ?_ | refine gXf ?_ ?_) <;> intro hb <;> (try simp only [hb])) | ((with_reducible show drawI _ _ _ _ _ _ _ _ _); first | ((with_reducible refine kI_rd ?_ ?_); exact rfl) | ((with_reducible apply kI_rg); exact rfl; exact rfl) | ((with_reducible refine kI_cv ?_ ?_ ?_); exact rfl; kernel_rfl) | ((with_reducible apply kI_al); exact rfl; exact rfl) | ((with_reducible refine kI_ex ?_ ?_ ?_ ?_ ?_); exact rfl; kernel_rfl; exact rfl) | ((with_reducible apply kI_eg); exact rfl; kernel_rfl; exact rfl) | ((with_reducible refine kI_nl ?_ ?_))) | ((with_reducible show eOk _ _ _ _ _ _); first | (exact eok_nil) | (refine ke_rd ?_ ?_ ?_; exact rfl) | (apply ke_rg; exact rfl; exact rfl) | (refine ke_cv ?_ ?_ ?_ ?_; exact rfl; kernel_rfl) | (apply ke_fl; exact rfl) | (apply ke_al; exact rfl; exact rfl)) | ((with_reducible refine freshIs_new ?_); kernel_rfl) | (simp only [B, xB, F, reduceLT, reduceLeDiff, reduceEqDiff, reduceAdd, reduceMul, reduceSub, ↓reduceIte, eq_self, u0, u1, t0, t1, tw, d1, @ite_self]))
   refine ⟨rfl, oo.sts (.inr (Nat.le_refl _))⟩
end
end Go.Proofs.YtllmfnedkhiomaaGreatDoor.S

namespace Go.Proofs.YtllmfnedkhiomaaGreatDoor.S
open Go Go.AX
noncomputable section
set_option maxRecDepth 100000
def bytesR (s : List Nat) : List AV := s.map fun c => .int .u8 (.ofNat c)
theorem bytesR_app (a b : List Nat) : bytesR (a ++ b) = bytesR a ++ bytesR b:= by unfold bytesR; rw [List.map_append]
theorem bytesR_len (a : List Nat) : (bytesR a).length = a.length:= by unfold bytesR; simp
theorem appStr {h : H} {base : Nat} {v : AV} {t : List Nat} (hg : Grows 1 base h v t.length (bytesR t)) (hb : base ≤ h.nx) (s : List Nat) (hz : t.length + s.length ≤ 1000000) {K : AV → H → Prop}
  (hk : ∀ v' h', Grows 1 base h' v' (t ++ s).length (bytesR (t ++ s)) → h.nx ≤ h'.nx → (∀ b, b < h.nx → blkOf v ≠ some b → h'.t.get b = h.t.get b) → (∀ b, blkOf v' = some b → blkOf v = some b ∨ b = h.nx) → h'.g = h.g → K v' h') :
  exW P (builtinA P .append [37, 9] [v, .str s] h) K := by
 have hi : infoOk P 5 1 = true:= by kernel_rfl
 unfold infoOk at hi
 split at hi
 ·rename_i info hinfo
  rw [Bool.and_eq_true] at hi
  have e2 := Nat.eq_of_beq_eq_true hi.2
  have hx : builtinA P .append [37, 9] [v, .str s] h = appendN 5 1 v s.length (bytesR s) h := by
   simp only [builtinA, u75a, u9a, appendA, hinfo, lenOfA, hi.1, srcA, e2, lenL_eq, List.take_length]
   rfl
  rw [hx]
  cases s with
  | nil =>
   show exW P (appendN 5 1 v 0 [] h) K
   rw [appendN_0 hg]
   exact hk v h (by simpa using hg) (Nat.le_refl _) (fun _ _ _ => rfl) (fun _ e => .inl e) rfl
  | cons c s =>
   refine exW_growsG (m := (c :: s).length) (new := bytesR (c :: s)) hg hb (by simp) (by omega) (by rw [bytesR_len]; omega) (by omega) (fun v' h' g x old bl gg => ?_)
   exact hk v' h' (by rw [List.length_append, bytesR_app]; exact g) (by omega) old (fun b e => by rw [bl] at e; cases e; exact .inr rfl) gg
 ·cases hi
abbrev Tx := Nat × List Nat × AV
def mapW (W : List Tx) : List (Nat × AV) := W.map fun x => (x.1, x.2.2)
def putW (c : Nat) (s : List Nat) (v : AV) : List Tx → List Tx
 | [] => [(c, s, v)]
 | x :: W => if c = x.1 then (c, s, v) :: W else x :: putW c s v W
def getW (c : Nat) (W : List Tx) : Option (List Nat × AV) := (W.find? fun p => decide (c = p.1)).map (·.2)
theorem get_mapW (c : Nat) : ∀ W : List Tx, mapGet c (mapW W) = (getW c W).map (·.2)
 | [] => rfl
 | p :: W => by
  have ih := get_mapW c W
  unfold mapGet mapW getW at *
  rw [List.map_cons, List.find?_cons, List.find?_cons]
  by_cases q : c = p.1
  ·simp [q]
  ·simp only [q, decide_false]; exact ih
theorem put_mapW (c : Nat) (s : List Nat) (v : AV) : ∀ W : List Tx, mapPut c v (mapW W) = mapW (putW c s v W)
 | [] => rfl
 | (a, t, w) :: W => by
  have ih := put_mapW c s v W
  unfold mapW at *
  rw [List.map_cons]
  unfold mapPut putW
  by_cases q : c = a
  ·simp [q]
  ·simp only [q, if_false, List.map_cons, ih]
theorem putW_mem {c : Nat} {s : List Nat} {v : AV} {x : Tx} : ∀ {W : List Tx}, (W.map (·.1)).Nodup → x ∈ putW c s v W → x = (c, s, v) ∨ x ∈ W ∧ x.1 ≠ c
 | [], _, h => by unfold putW at h; rw [List.mem_singleton] at h; exact .inl h
 | y :: W, nd, h => by
  rw [List.map_cons, List.nodup_cons] at nd
  unfold putW at h
  by_cases q : c = y.1
  ·rw [if_pos q] at h
   rcases List.mem_cons.1 h with h | h
   ·exact .inl h
   ·exact .inr ⟨by simp [h], fun e => nd.1 (by rw [← q, ← e]; exact List.mem_map_of_mem h)⟩
  ·rw [if_neg q] at h
   rcases List.mem_cons.1 h with rfl | h
   ·exact .inr ⟨by simp, fun e => q e.symm⟩
   ·rcases putW_mem nd.2 h with h | ⟨h1, h2⟩
    ·exact .inl h
    ·exact .inr ⟨by simp [h1], h2⟩
theorem putW_keys {c : Nat} {s : List Nat} {v : AV} : ∀ {W : List Tx}, (W.map (·.1)).Nodup → ((putW c s v W).map (·.1)).Nodup
 | [], _ => by unfold putW; simp
 | y :: W, nd => by
  rw [List.map_cons, List.nodup_cons] at nd
  unfold putW
  by_cases q : c = y.1
  ·rw [if_pos q, List.map_cons, List.nodup_cons]
   exact ⟨by rw [q]; exact nd.1, nd.2⟩
  ·rw [if_neg q, List.map_cons, List.nodup_cons]
   refine ⟨fun h => ?_, putW_keys nd.2⟩
   obtain ⟨x, hx, e⟩ := List.mem_map.1 h
   rcases putW_mem nd.2 hx with rfl | ⟨h1, _⟩
   ·exact q e
   ·exact nd.1 (by rw [← e]; exact List.mem_map_of_mem h1)
def djB (x y : Tx) : Prop := ∀ b, blkOf x.2.2 = some b → blkOf y.2.2 ≠ some b
theorem putW_dj {c : Nat} {s : List Nat} {v : AV} (h : ∀ W : List Tx, True) : ∀ {W : List Tx}, (W.map (·.1)).Nodup → W.Pairwise djB → (∀ x, x ∈ W → x.1 ≠ c → djB (c, s, v) x ∧ djB x (c, s, v)) → (putW c s v W).Pairwise djB
 | [], _, _, _ => by unfold putW; simp
 | y :: W, nd, dj, hv => by
  rw [List.map_cons, List.nodup_cons] at nd
  rw [List.pairwise_cons] at dj
  unfold putW
  by_cases q : c = y.1
  ·rw [if_pos q, List.pairwise_cons]
   exact ⟨fun x hx => (hv x (by simp [hx]) (fun e => nd.1 (by rw [← q, ← e]; exact List.mem_map_of_mem hx))).1, dj.2⟩
  ·rw [if_neg q, List.pairwise_cons]
   refine ⟨fun x hx => ?_, putW_dj h nd.2 dj.2 (fun x hx => hv x (by simp [hx]))⟩
   rcases putW_mem nd.2 hx with rfl | ⟨h1, _⟩
   ·exact (hv y (by simp) (fun e => q e.symm)).2
   ·exact dj.1 x h1
structure TxAt (h : H) (rt base : Nat) (W : List Tx) : Prop where
 mp : MapK encU h rt (mapW W)
 nd : (W.map (·.1)).Nodup
 gr : ∀ x, x ∈ W → Grows 1 base h x.2.2 x.2.1.length (bytesR x.2.1)
 dj : W.Pairwise djB
 lt : rt < base
 bs : base ≤ h.nx
theorem TxAt.keep {h h' : H} {rt base : Nat} {W : List Tx} (k : TxAt h rt base W) {S : List Nat} (o : Og h h' S) (hS : ∀ c, c ∈ S → c < base ∧ c ≠ rt) : TxAt h' rt base W :=
 ⟨k.mp.keep o.1 (fun q => (hS _ q).2 rfl), k.nd, fun x hx => (k.gr x hx).of_get o.1.1 (fun b hb => by
  have := (k.gr x hx).base hb
  exact o.1.2 b this.2 (fun q => by have := (hS _ q).1; omega)), k.dj, k.lt, Nat.le_trans k.bs o.1.1⟩
theorem getW_mem {c : Nat} {x : List Nat × AV} {W : List Tx} (h : getW c W = some x) : (c, x.1, x.2) ∈ W := by
 unfold getW at h
 rw [Option.map_eq_some_iff] at h
 obtain ⟨y, h1, h2⟩ := h
 have h3 := List.find?_some h1
 have h4 := List.mem_of_find?_eq_some h1
 simp at h3
 subst h2
 rw [h3]
 exact h4
theorem pair_ne {W : List Tx} (hd : W.Pairwise djB) {x y : Tx} (hx : x ∈ W) (hy : y ∈ W) (hne : x.1 ≠ y.1) : djB x y ∧ djB y x := by
 induction W with
 | nil => cases hx
 | cons z W ih =>
  rw [List.pairwise_cons] at hd
  have sym : ∀ {a b : Tx}, djB a b → djB b a := fun h b e1 e2 => h b e2 e1
  rcases List.mem_cons.1 hx with rfl | hx2
  ·rcases List.mem_cons.1 hy with rfl | hy2
   ·exact absurd rfl hne
   ·exact ⟨hd.1 y hy2, sym (hd.1 y hy2)⟩
  ·rcases List.mem_cons.1 hy with rfl | hy2
   ·exact ⟨sym (hd.1 x hx2), hd.1 x hx2⟩
   ·exact ih hd.2 hx2 hy2
theorem TxAt.step {h h' h'' : H} {rt base : Nat} {W : List Tx} (k : TxAt h rt base W) {c : Nat} {t s : List Nat} {v v' : AV} (hv : getW c W = some (t, v) ∨ getW c W = none ∧ t = [] ∧ v = .nilslice)
  (g : Grows 1 base h' v' (t ++ s).length (bytesR (t ++ s))) (hx : h.nx ≤ h'.nx) (old : ∀ b, b < h.nx → blkOf v ≠ some b → h'.t.get b = h.t.get b) (bl : ∀ b, blkOf v' = some b → blkOf v = some b ∨ b = h.nx)
  (m : MapK encU h'' rt (mapPut c v' (mapW W))) (o : Og h' h'' [rt]) : TxAt h'' rt base (putW c (t ++ s) v' W) := by
 have hlt : ∀ x, x ∈ W → ∀ b, blkOf x.2.2 = some b → base ≤ b ∧ b < h.nx := fun x hx b e => (k.gr x hx).base e
 have hvx : ∀ x, x ∈ W → x.1 ≠ c → ∀ b, blkOf x.2.2 = some b → blkOf v ≠ some b := fun x hx hne b e => by
  rcases hv with hv | ⟨_, _, rfl⟩
  ·exact (pair_ne k.dj hx (getW_mem hv) hne).1 b e
  ·exact fun q => by cases q
 refine ⟨by rw [← put_mapW]; exact m, putW_keys k.nd, fun x hx => ?_, putW_dj (fun _ => trivial) k.nd k.dj (fun x hx hne => ?_), k.lt, by have := k.bs; have := o.1.1; omega⟩
 ·rcases putW_mem k.nd hx with rfl | ⟨hx, hne⟩
  ·refine g.of_get o.1.1 (fun b e => o.1.2 b (g.base e).2 (by have := (g.base e).1; have := k.lt; simp; omega))
  ·refine ((k.gr x hx).of_get (by omega) (fun b e => old b (hlt x hx b e).2 (hvx x hx hne b e))).of_get o.1.1 (fun b e => o.1.2 b (by have := (hlt x hx b e).2; omega) (by have := (hlt x hx b e).1; have := k.lt; simp; omega))
 ·refine ⟨fun b e1 e2 => ?_, fun b e1 e2 => ?_⟩
  ·rcases bl b e1 with q | q
   ·exact hvx x hx hne b e2 q
   ·have := (hlt x hx b e2).2; omega
  ·rcases bl b e2 with q | q
   ·exact hvx x hx hne b e1 q
   ·have := (hlt x hx b e1).2; omega
end
end Go.Proofs.YtllmfnedkhiomaaGreatDoor.S

namespace Go.Proofs.YtllmfnedkhiomaaGreatDoor.S
open Go Go.AX
noncomputable section
theorem b256_ne {n : Nat} (h : n ≠ 0) : b256 n ≠ []:= by rw [b256_s h]; simp
theorem num256_app (s : List Nat) (c : Nat) : num256 (s ++ [c]) = num256 s * 256 + c:= by unfold num256; rw [List.foldl_append]; rfl
theorem num256_b (n : Nat) : num256 (b256 n) = n := by
 induction n using Nat.strongRecOn with
 | ind n ih =>
  by_cases q : n = 0
  ·rw [q, b256_0]; rfl
  ·rw [b256_s q, num256_app, ih (n / 256) (by omega)]; omega
theorem b256_head (n : Nat) : ∀ x, (b256 n)[0]? = some x → x ≠ 0 := by
 induction n using Nat.strongRecOn with
 | ind n ih =>
  intro x hx
  by_cases q : n = 0
  ·rw [q, b256_0] at hx; cases hx
  ·rw [b256_s q] at hx
   by_cases q2 : n / 256 = 0
   ·rw [q2, b256_0] at hx
    simp at hx
    omega
   ·rw [List.getElem?_append_left (by have := b256_ne q2; exact List.length_pos_iff.2 this)] at hx
    exact ih (n / 256) (by omega) x hx
theorem numR_enc {n : Nat} (hn : n < M64) (r : List Nat) (bad : Bool) : numR (encN n ++ r) bad = (n, r, bad) := by
 unfold numR encN
 by_cases q : n < 248
 ·rw [if_pos q]
  show (match (if n < 248 then some (n, r) else _) with | some (n, r) => (n, r, bad) | none => (0, [], true)) = _
  rw [if_pos q]
 ·rw [if_neg q]
  have h8 := b256_len 8 n hn
  have h0 : 0 < (b256 n).length := List.length_pos_iff.2 (b256_ne (by omega))
  have hrd := rdNum_at (s := (247 + (b256 n).length) :: b256 n ++ r) (x := 247 + (b256 n).length) rfl
  rw [hrd, if_neg (by omega)]
  have e1 : ((247 + (b256 n).length) :: b256 n ++ r).drop 1 = b256 n ++ r := rfl
  have e2 : 247 + (b256 n).length - 247 = (b256 n).length:= by omega
  rw [e1, e2, List.take_left, List.drop_left, num256_b, if_neg]
  rintro (h | h | h)
  ·rw [List.length_append] at h; omega
  ·rw [List.getElem?_append_left h0] at h
   exact b256_head n 0 h rfl
  ·exact q h
theorem textR_enc {s : List Nat} (hs : s.length < M64) (r : List Nat) (bad : Bool) : textR (encN s.length ++ s ++ r) bad = (s, r, bad) := by
 unfold textR
 rw [List.append_assoc, numR_enc hs]
 simp only
 rw [if_neg (by rw [List.length_append]; omega), List.take_left, List.drop_left]
theorem readV_enc {n : Nat} {s : List Nat} (hn : n < M64) (hs : s.length < M64) : readV (textP n s) = (n, s) ∧ readOk (textP n s) = (decide (0 < n) && decide (s.length ≤ 4000)) := by
 have h1 := numR_enc hn (encN s.length ++ s) false
 have h2 := textR_enc hs [] false
 rw [List.append_nil] at h2
 have e : textP n s = encN n ++ (encN s.length ++ s):= by unfold textP; rw [List.append_assoc]
 have hV : readV (textP n s) = (n, s) := by
  unfold readV
  rw [e, h1, h2]
 refine ⟨hV, ?_⟩
 unfold readOk
 rw [hV, e, h1, h2]
 rfl
theorem textP_ne (n : Nat) (s : List Nat) : textP n s ≠ [] := by
 unfold textP encN
 split <;> simp
theorem take_more {α : Type} (l : List α) (a b : Nat) : l.take a ++ (l.drop a).take b = l.take (a + b):= by rw [List.take_add]
theorem pieces_cat (s : List Nat) : ∀ k, ((List.range k).map fun i => pieceP s i).flatten = s.take (k * 96)
 | 0 => by simp
 | k + 1 => by
  rw [List.range_succ, List.map_append, List.flatten_append, pieces_cat s k]
  show s.take (k * 96) ++ (pieceP s k ++ []) = _
  rw [List.append_nil]
  unfold pieceP
  rw [take_more, Nat.add_mul, Nat.one_mul]
theorem prs_cat (c n : Nat) (s : List Nat) : ((prs (c, n, s)).map (·.2)).flatten = textP n s := by
 unfold prs
 rw [List.map_map]
 show ((List.range (cntP (textP n s))).map fun i => pieceP (textP n s) i).flatten = _
 rw [pieces_cat, List.take_of_length_le]
 unfold cntP; omega
theorem hexD_hx {d : Nat} (h : d < 16) : isHx (hexD d) = true ∧ hv (hexD d) = d := by
 unfold hexD
 rw [isHx_iff]
 unfold hv
 split
 ·refine ⟨by omega, ?_⟩
  rw [if_pos (by omega)]; omega
 ·refine ⟨by omega, ?_⟩
  rw [if_neg (by omega)]; omega
theorem hexF_hx : ∀ (d n : Nat), allHx (hexF n d)
 | 0, n => fun c hc => by cases hc
 | d + 1, n => fun c hc => by
  unfold hexF at hc
  rcases List.mem_append.1 hc with q | q
  ·exact hexF_hx d _ c q
  ·rw [List.mem_singleton] at q; subst q
   exact (hexD_hx (Nat.mod_lt _ (by omega))).1
theorem hexF_num : ∀ (d n : Nat), n < 16 ^ d → numX (hexF n d) = n
  | 0, n, h => by have : n = 0:= by simpa using h
                  subst this; rfl
  | d + 1, n, h => by
    have ih := hexF_num d (n / 16) (by rw [Nat.pow_succ] at h; omega)
    unfold hexF
    unfold numX at ih ⊢
    rw [List.foldl_append, ih]
    show n / 16 * 16 + hv (hexD (n % 16)) = n
    rw [(hexD_hx (Nat.mod_lt _ (by omega))).2]; omega
theorem hexF_len : ∀ (d n : Nat), (hexF n d).length = d
 | 0, _ => rfl
 | d + 1, n => by unfold hexF; rw [List.length_append, hexF_len d]; rfl
theorem cliOf_key {c i : Nat} (hc : c < 281474976710656) (hi : i < 256) : cliOf (keyP c i) = some c := by
 have h12 : hexP c 12 = hexF c 12 := (hexF_P 12 c (by omega) (by omega)).symm
 have h2 : hexP i 2 = hexF i 2 := (hexF_P 2 i (by omega) (by omega)).symm
 have e : keyP c i = 115 :: (hexF c 12 ++ (45 :: hexF i 2)):= by unfold keyP; rw [h12, h2, List.append_assoc]; rfl
 have hd : digX (keyP c i) = hexF c 12 := by
  unfold digX
  rw [e]
  show (hexF c 12 ++ (45 :: hexF i 2)).take 12 = _
  have := List.take_left (l₁ := hexF c 12) (l₂ := 45 :: hexF i 2)
  rwa [hexF_len] at this
 unfold cliOf
 rw [hd, if_pos]
 ·rw [hexF_num 12 c (by omega)]
 ·refine ⟨?_, by rw [e]; rfl, hexF_hx 12 c⟩
  rw [e, List.length_cons, List.length_append, List.length_cons, hexF_len, hexF_len]
theorem cliOf_lt {k : List Nat} {c : Nat} (h : cliOf k = some c) : c < 281474976710656 := by
 unfold cliOf at h
 split at h
 ·rename_i q
  cases h
  have := numX_lt _ q.2.2
  have hl : (digX k).length = 12:= by unfold digX; rw [List.length_take, List.length_drop]; omega
  rw [hl] at this
  have e : (16 : Nat) ^ 12 = 281474976710656:= by decide
  omega
 ·cases h
def addT (c : Nat) (s : List Nat) : List (Nat × List Nat) → List (Nat × List Nat)
 | [] => [(c, s)]
 | (a, t) :: T => if c = a then (a, t ++ s) :: T else (a, t) :: addT c s T
def cliN (k : List Nat) : Nat := (cliOf k).getD 0
def tx (Y : List Kp) : List (Nat × List Nat) := Y.foldl (fun T p => addT (cliN p.1) p.2 T) []
theorem tx_s (Y : List Kp) (p : Kp) : tx (Y ++ [p]) = addT (cliN p.1) p.2 (tx Y):= by unfold tx; rw [List.foldl_append]; rfl
def prW (W : List Tx) : List (Nat × List Nat) := W.map fun x => (x.1, x.2.1)
theorem prW_put (c : Nat) (s : List Nat) (v : AV) : ∀ (W : List Tx) (t : List Nat) (w : AV), getW c W = some (t, w) ∨ getW c W = none ∧ t = [] → prW (putW c (t ++ s) v W) = addT c s (prW W)
 | [], t, w, h => by
  rcases h with h | ⟨_, rfl⟩
  ·cases h
  ·rfl
 | (a, u, x) :: W, t, w, h => by
  have ih := prW_put c s v W t w
  unfold getW at h ih
  rw [List.find?_cons] at h
  unfold putW prW
  rw [List.map_cons]
  unfold addT
  by_cases q : c = a
  ·simp only [q, decide_true] at h
   rw [if_pos q, if_pos q, List.map_cons]
   rcases h with h | ⟨h, _⟩
   ·cases h; rw [q]
   ·cases h
  ·simp only [q, decide_false] at h
   rw [if_neg q, if_neg q, List.map_cons]
   have := ih h
   unfold prW at this
   rw [this]
theorem addT_new {c : Nat} {s : List Nat} : ∀ {T : List (Nat × List Nat)}, c ∉ T.map (·.1) → addT c s T = T ++ [(c, s)]
 | [], _ => rfl
 | (a, t) :: T, h => by
  simp only [List.map_cons, List.mem_cons, not_or] at h
  unfold addT
  rw [if_neg h.1, addT_new h.2]; rfl
theorem addT_last {c : Nat} {s t : List Nat} : ∀ {T : List (Nat × List Nat)}, c ∉ T.map (·.1) → addT c s (T ++ [(c, t)]) = T ++ [(c, t ++ s)]
 | [], _ => by show addT c s [(c, t)] = _; unfold addT; rw [if_pos rfl]; rfl
 | (a, u) :: T, h => by
  simp only [List.map_cons, List.mem_cons, not_or] at h
  show addT c s ((a, u) :: (T ++ [(c, t)])) = _
  unfold addT
  rw [if_neg h.1, addT_last h.2]; rfl
theorem fold_last {c : Nat} : ∀ (Y : List Kp) {T : List (Nat × List Nat)} {t : List Nat}, (∀ p, p ∈ Y → cliN p.1 = c) → c ∉ T.map (·.1) → Y.foldl (fun T p => addT (cliN p.1) p.2 T) (T ++ [(c, t)]) = T ++ [(c, t ++ (Y.map (·.2)).flatten)]
 | [], T, t, _, _ => by simp
 | p :: Y, T, t, h, hc => by
  rw [List.foldl_cons, h p (by simp), addT_last hc, fold_last Y (fun q hq => h q (by simp [hq])) hc, List.map_cons, List.flatten_cons, List.append_assoc]
def rowT (y : Rw) : Nat × List Nat := (y.1, textP y.2.1 y.2.2)
theorem prs_ne (y : Rw) : prs y ≠ [] := by
 obtain ⟨c, n, s⟩ := y
 intro h
 have := prs_cat c n s
 rw [h] at this
 exact textP_ne n s this.symm
theorem fold_prs {y : Rw} (hy : OkRw y) {T : List (Nat × List Nat)} (hT : y.1 ∉ T.map (·.1)) : (prs y).foldl (fun T p => addT (cliN p.1) p.2 T) T = T ++ [rowT y] := by
 have hk : ∀ p, p ∈ prs y → cliN p.1 = y.1 := by
  intro p hp
  have h60 := prs_len hy
  obtain ⟨c, n, s⟩ := y
  rw [prs_len'] at h60
  unfold prs at hp
  obtain ⟨i, hi, rfl⟩ := List.mem_map.1 hp
  rw [List.mem_range] at hi
  show cliN (keyP c i) = c
  unfold cliN
  rw [cliOf_key hy.1 (by simp only at hi; omega)]; rfl
 have hcat : ((prs y).map (·.2)).flatten = textP y.2.1 y.2.2 := prs_cat y.1 y.2.1 y.2.2
 cases hp : prs y with
 | nil => exact absurd hp (prs_ne y)
 | cons p Y =>
  rw [hp] at hk hcat
  rw [List.foldl_cons, hk p (by simp), addT_new hT, fold_last Y (fun q hq => hk q (by simp [hq])) hT]
  rw [List.map_cons, List.flatten_cons] at hcat
  rw [hcat]; rfl
theorem tx_rows : ∀ {R : List Rw}, (R.map (·.1)).Nodup → (∀ y, y ∈ R → OkRw y) → tx (allP R) = R.map rowT := by
 intro R
 have key : ∀ (R A : List Rw), ((A ++ R).map (·.1)).Nodup → (∀ y, y ∈ R → OkRw y) → (allP R).foldl (fun T p => addT (cliN p.1) p.2 T) (A.map rowT) = (A ++ R).map rowT := by
  intro R
  induction R with
  | nil => intro A _ _; rw [List.append_nil]; rfl
  | cons y R ih =>
   intro A nd ok
   have h1 : y.1 ∉ (A.map rowT).map (·.1) := by
    rw [List.map_map]
    show y.1 ∉ A.map (fun x => x.1)
    rw [List.map_append, List.nodup_append] at nd
    exact fun q => nd.2.2 _ q _ (by simp) rfl
   unfold allP
   rw [List.flatMap_cons, List.foldl_append, fold_prs (ok y (by simp)) h1]
   have := ih (A ++ [y]) (by rw [List.append_assoc]; exact nd) (fun z hz => ok z (by simp [hz]))
   rw [List.map_append, List.append_assoc] at this
   exact this
 intro nd ok
 exact key R [] nd ok
theorem allP_keys {L : List Rw} (so : (L.map (·.1)).Pairwise (· < ·)) (ok : ∀ y, y ∈ L → OkRw y) : ((allP L).map (·.1)).Pairwise ltL := by
 unfold allP
 rw [List.pairwise_map, List.pairwise_flatMap]
 rw [List.pairwise_map] at so
 refine ⟨fun y hy => ?_, so.imp_of_mem fun {a b} ha hb h x hx z hz => ?_⟩
 ·have h60 := prs_len (ok y hy)
  obtain ⟨c, n, s⟩ := y
  rw [prs_len'] at h60
  have := outR_keys c n 0 s (by omega) (by omega)
  rw [List.pairwise_map] at this
  rw [prs_new]
  have e : restP c (cntP (textP n s)) 0 = []:= by unfold restP; rw [Nat.zero_sub]; rfl
  rw [e, List.append_nil] at this
  exact this
 ·obtain ⟨c, n, s⟩ := a
  obtain ⟨d, m, t⟩ := b
  rw [prs_new] at hx hz
  unfold newP at hx hz
  obtain ⟨j, -, rfl⟩ := List.mem_map.1 hx
  obtain ⟨k, -, rfl⟩ := List.mem_map.1 hz
  exact key_c h (ok _ hb).1 j k
theorem allP_perm : ∀ {V L : List Rw}, V.Perm L → (allP V).Perm (allP L) := by
 intro V L h
 unfold allP
 induction h with
 | nil => exact List.Perm.refl _
 | cons x _ ih => rw [List.flatMap_cons, List.flatMap_cons]; exact ih.append_left _
 | swap x y l =>
  rw [List.flatMap_cons, List.flatMap_cons, List.flatMap_cons, List.flatMap_cons, ← List.append_assoc, ← List.append_assoc]
  exact List.perm_append_comm.append_right _
 | trans _ _ ih1 ih2 => exact ih1.trans ih2
structure ValB (Bk : List Rw) : Prop where
 len : Bk.length ≤ 64
 nd : (Bk.map (·.1)).Nodup
 ok : ∀ y, y ∈ Bk → OkRw y ∧ 0 < y.1 ∧ 0 < y.2.1
theorem ValB.perm {A B : List Rw} (h : ValB A) (p : A.Perm B) : ValB B := ⟨by rw [← p.length_eq]; exact h.len, (p.map _).nodup_iff.1 h.nd, fun y hy => h.ok y (p.mem_iff.2 hy)⟩
theorem sort_rows (Bk : List Rw) (nd : (Bk.map (·.1)).Nodup) : ∃ R : List Rw, R.Perm Bk ∧ (R.map (·.1)).Pairwise (· < ·) := by
 refine ⟨Bk.mergeSort (fun a b => decide (a.1 ≤ b.1)), List.mergeSort_perm _ _, ?_⟩
 have hp := List.mergeSort_perm Bk (fun a b => decide (a.1 ≤ b.1))
 have hs := List.pairwise_mergeSort (le := fun a b : Rw => decide (a.1 ≤ b.1)) (fun a b c h1 h2 => by simp at *; omega) (fun a b => by simp; omega) Bk
 have hn := (hp.map (·.1)).nodup_iff.2 nd
 rw [List.Nodup, List.pairwise_map] at hn
 rw [List.pairwise_map]
 exact (hs.and hn).imp fun {a b} ⟨h1, h2⟩ => by simp at h1; omega
def sortedY (X : List Kp) : List Kp := (sortS (X.map (·.1))).map fun k => (k, valX k X)
def Good (X : List Kp) : Prop := ∃ Bk, ValB Bk ∧ (allP Bk).Perm X
theorem good_rows {X : List Kp} {Bk : List Rw} (hv : ValB Bk) (hp : (allP Bk).Perm X) : ∃ R, R.Perm Bk ∧ sortedY X = allP R ∧ tx (sortedY X) = R.map rowT := by
 obtain ⟨R, hR, so⟩ := sort_rows Bk hv.nd
 have hvR := hv.perm hR.symm
 have hk := allP_keys so (fun y hy => (hvR.ok y hy).1)
 have e : sortedY X = allP R := rising_eq (V := X) (List.Perm.refl _) (hp.symm.trans (allP_perm hR.symm)) hk
 exact ⟨R, hR, e, by rw [e]; exact tx_rows hvR.nd (fun y hy => (hvR.ok y hy).1)⟩
theorem read_row {y : Rw} (h : OkRw y ∧ 0 < y.1 ∧ 0 < y.2.1) : readV (rowT y).2 = y.2 ∧ readOk (rowT y).2 = true := by
 obtain ⟨c, n, s⟩ := y
 obtain ⟨⟨h1, h2, h3⟩, h4, h5⟩ := h
 simp only at *
 have hM : M64 = 18446744073709551616 := rfl
 have := readV_enc (n := n) (s := s) h2 (by omega)
 refine ⟨this.1, ?_⟩
 show readOk (textP n s) = true
 rw [this.2]
 simp; omega
def bookT (T : List (Nat × List Nat)) : List Rw := T.map fun x => (x.1, readV x.2)
theorem book_rows {R : List Rw} (h : ∀ y, y ∈ R → OkRw y ∧ 0 < y.1 ∧ 0 < y.2.1) : bookT (R.map rowT) = R := by
 unfold bookT
 rw [List.map_map]
 have : ∀ y, y ∈ R → ((fun x : Nat × List Nat => (x.1, readV x.2)) ∘ rowT) y = id y := fun y hy => by
  show ((rowT y).1, readV (rowT y).2) = y
  rw [(read_row (h y hy)).1]; rfl
 rw [List.map_congr_left this, List.map_id]
theorem good_one {X : List Kp} {A B : List Rw} (ha : ValB A) (pa : (allP A).Perm X) (hb : ValB B) (pb : (allP B).Perm X) : A.Perm B := by
 obtain ⟨R, r1, -, r3⟩ := good_rows ha pa
 obtain ⟨S, s1, -, s3⟩ := good_rows hb pb
 have e1 := book_rows (R := R) (fun y hy => ha.ok y (r1.mem_iff.1 hy))
 have e2 := book_rows (R := S) (fun y hy => hb.ok y (s1.mem_iff.1 hy))
 rw [← r3] at e1
 rw [← s3] at e2
 exact r1.symm.trans ((e1.symm.trans e2) ▸ s1)
end
end Go.Proofs.YtllmfnedkhiomaaGreatDoor.S

namespace Go.AX
noncomputable section
open Go.RowKit
end
end Go.AX

namespace Go.Proofs.YtllmfnedkhiomaaGreatDoor.S
open Go.RowKit Go.Maps Go.Sort Go.Shelf Go.Proofs Go.AX
theorem sorts16 (m : Nat) : AnyZ.SortsIn Tryz.prog Tryz.sorted16_ren Fence.wide m :=
  ⟨fun blk off cap ss W hH hblk hsz => callsIn_wide.2 (AnyM.slices_Sort_string Tryz.sort30 blk off cap ss W hH hblk hsz),
   fun p cap W => callsIn_wide.2 (AnyM.slices_Sort_string_none Tryz.sort30 p cap W)⟩
set_option maxHeartbeats 1000000 in
theorem sortedOk17 : AX.SortedOk Tryz.prog 16 31 9 := by
 intro Bm b nn D0 R w hBm hcell hown hmax hbytes
 exact (callsIn_wide (n := 5)).1 (AnyZ.sorted_in Tryz.sorted16 Fence.wide 5 trivial trivial trivial trivial rfl (by omega) (sorts16 _) (enters_of Tryz.func30 (by kernel_rfl) rfl) 31 #[.pointer (some ⟨Bm, 0, none⟩)] trivial (enters_of Tryz.func31 (by kernel_rfl) rfl) _ _ hmax hbytes _ (AnyZ.keys_gives (ρ := Tryz.keys17_ren) { Tryz.keys17 with } Fence.wide _ trivial rfl (by omega) Bm b nn D0 _ hBm hcell hown))
noncomputable def sortedK : Hook := (orHook (sortedHook 16 31) noHook)
theorem sortedK_ok : HookOk Tryz.prog sortedK := (orHook_ok (sortedHook_ok (by kernel_rfl) sortedOk17) (noHook_ok _))
end Go.Proofs.YtllmfnedkhiomaaGreatDoor.S

namespace Go.Proofs.YtllmfnedkhiomaaGreatDoor.S
open Go Go.AX
noncomputable section
set_option maxRecDepth 100000
theorem notIn_iff {x : Nat} : ∀ {l : List Nat}, notIn l x = true ↔ x ∉ l := by
 intro l
 rw [notIn_eq]
 simp
theorem keysOf_ok {clock : Nat} : ∀ {es : List (AV × AV × Nat)} {X : List Kp}, es.map entP = (mS X).map (encP encS) → (X.map (·.1)).Nodup → (es.map (·.2.2)).Nodup → (∀ e, e ∈ es → e.2.2 < clock) → (∀ p, p ∈ X → p.1.length ≤ 1000000) → keysOf clock es = some (X.map (·.1), es.map (·.2.2))
 | [], [], _, _, _, _, _ => rfl
 | [], p :: X, h, _, _, _, _ => by simp [mS] at h
 | e :: es, [], h, _, _, _, _ => by simp [mS] at h
 | e :: es, p :: X, h, nd, ns, lt, hz => by
  unfold mS at h
  rw [List.map_cons, List.map_cons, List.map_cons, List.cons.injEq] at h
  have e1 : e.1 = .str p.1 := congrArg Prod.fst h.1
  rw [List.map_cons, List.nodup_cons] at nd ns
  have ih := keysOf_ok (clock := clock) (es := es) (X := X) h.2 nd.2 ns.2 (fun x hx => lt x (by simp [hx])) (fun q hq => hz q (by simp [hq]))
  obtain ⟨a, b, c⟩ := e
  simp only at e1
  subst e1
  unfold keysOf
  have h1 : notInS p.1 (X.map (·.1)) = true := notInS_iff.2 nd.1
  have h2 : notIn (es.map (·.2.2)) c = true := notIn_iff.2 ns.1
  have h3 : Nat.blt c clock = true:= by rw [Nat.blt_eq]; exact lt _ (List.mem_cons_self ..)
  have h4 : small p.1.length = true := Nat.ble_eq_true_of_le (by have := hz p (by simp); omega)
  simp only [ih, h1, h2, h3, h4, Bool.and_self, List.map_cons]
theorem sortedC {h0 : H} {r : Nat} {X : List Kp} (m : MapK encS h0 r (mS X)) (nd : (X.map (·.1)).Nodup) (hz : X.length ≤ 1000000) (hk : ∀ p, p ∈ X → p.1.length ≤ 1000000) {Q : AV → H → Prop}
  (hq : ∀ v h', Grows 1 (h0.nx + 1) h' v X.length (strs (sortS (X.map (·.1)))) → Og h0 h' [] → Q v h') : CallC P (.enter 16 [.func 31 [] [.ptr h0.nx 0]] (h0.newCells 25 [.map r])) Q := by
 obtain ⟨es, clock, g1, g2, g3, g4⟩ := m.has
 have ltr := m.lt
 have hl : es.length = X.length:= by have := congrArg List.length g2; simpa [mS] using this
 have hko := keysOf_ok g2 nd g3 g4 hk
 have hgb : (h0.newCells 25 [.map r]).t.get h0.nx = some (.cells (lenL [AV.map r]) (T.ofRow [AV.map r]) ⟨0, 26⟩ false) := by
  unfold H.newCells H.alloc
  rw [T.get_set, if_pos rfl]
 have hgr : (h0.newCells 25 [.map r]).t.get r = some (.map es clock) := by
  unfold H.newCells H.alloc
  rw [T.get_set, if_neg (by omega)]; exact g1
 have hsm : small es.length = true := Nat.ble_eq_true_of_le (by omega)
 have hT : (T.ofRow [AV.map r]).get 0 = some (.map r):= by rw [T.get_ofRow]; rfl
 have hin : sortedIn (h0.newCells 25 [.map r]) h0.nx = sortedAt (h0.newCells 25 [.map r]) es clock := by
  unfold sortedIn
  simp only [hgb, hT, hgr]
 have o1 : Og h0 (h0.newCells 25 [.map r]) [] := (Og.refl _ _).new _ _
 cases X with
 | nil =>
  have hat : sortedAt (h0.newCells 25 [.map r]) es clock = some (.nilslice, h0.newCells 25 [.map r]) := by
   unfold sortedAt
   simp only [hsm, hko, List.map_nil]
  refine CallC.of_hook P sortedK_ok (v := .nilslice) (h' := h0.newCells 25 [.map r]) ?_ (hq _ _ .none o1)
  show (match sortedIn (h0.newCells 25 [.map r]) h0.nx with | some x => some x | none => _) = _
  rw [hin, hat]
 | cons p X =>
  obtain ⟨h1, h1e⟩ : ∃ h1, h1 = h0.newCells 25 [.map r] := ⟨_, rfl⟩
  have x1 : h1.nx = h0.nx + 1:= by rw [h1e]; rfl
  have hat : sortedAt h1 es clock = some (.slice h1.nx 0 (X.length + 1) (.opn 0), h1.grown none ⟨1, 0⟩ ((sortS ((p :: X).map (·.1))).map .str)) := by
   unfold sortedAt
   simp only [hsm, hko, List.map_cons, List.length_cons, List.length_map]
  rw [← h1e] at hin o1 ⊢
  refine CallC.of_hook P sortedK_ok (v := .slice h1.nx 0 (X.length + 1) (.opn 0)) (h' := h1.grown none ⟨1, 0⟩ ((sortS ((p :: X).map (·.1))).map .str)) ?_ (hq _ _ ?_ (o1.t ⟨grown_only, rfl⟩))
  ·show (match sortedIn h1 h0.nx with | some x => some x | none => _) = _
   rw [hin, hat]
  ·have hln : ((sortS ((p :: X).map (·.1))).map AV.str).length = (X.length + 1) * 1 := by
    rw [List.length_map, sortS_len, List.length_map, List.length_cons, Nat.mul_one]
   refine .cell h1.nx (X.length + 1) _ (T.ofRow ((sortS ((p :: X).map (·.1))).map .str)) 0 (by omega) (by rw [grownL_nx]; omega) hln ?_ (T.get_ofRow _)
   rw [← hln]
   exact grownL_new _ _ _ _
theorem convB {h : H} {base : Nat} {v : AV} {s : List Nat} (g : Grows 1 base h v s.length (bytesR s)) (hs : isBy s) : convR P 37 9 v h = .val (.str s) h := by
 have u5a : P.underlying 5 = some (.int .u8):= by kernel_rfl
 generalize hn : s.length = n at g
 generalize hc : bytesR s = cs at g
 cases g with
 | none =>
  have : s = [] := List.length_eq_zero_iff.1 hn
  subst this
  unfold convR
  simp only [u75a, u9a]
  unfold convertA
  simp only [u75a, u9a, u5a]
 | cell b n cs t ty g1 g2 g3 g4 g5 =>
  by_cases q : s = []
  ·subst q
   have : n = 0 := hn.symm
   subst this
   have hr : h.row b 0 0 = some []:= by unfold H.row; rw [g4]; simp only [loadRow_eq]; rfl
   unfold convR
   simp only [u75a, u9a]
   unfold convertA
   simp only [u75a, u9a, u5a, hr]
   rfl
  ·refine conv_bytes hn q (fun j hj => ?_) hs
   rw [Nat.zero_add]
   unfold cellAt
   rw [g4]
   simp only [g5, ← hc]
   unfold bytesR
   rw [List.getElem?_map]
structure EqI (h0 : H) (ra rb it : Nat) (Xa Xb : List Kp) (m : Nat) (ds : List Nat) (tm : T AV) (h : H) (V R : List Kp) : Prop where
 ds : ds = []
 nn : m = R.length
 pm : (V ++ R).Perm Xa
 al : ∀ p, p ∈ V → p ∈ Xb
 t1 : tm.get 1 = some (.map rb)
 t15 : tm.get 15 = some (.ptr it 0)
 rg : RngK encS h it ra (mS Xa) (mS V) (mS R)
 oo : Og h0 h []
theorem getS_some {k : List Nat} {X : List Kp} (nd : (X.map (·.1)).Nodup) (s : List Nat) : (decide (valX k X = s) && (mapGet k (mS X)).isSome) = true ↔ (k, s) ∈ X := by
 induction X with
 | nil => simp [mapGet, mS]
 | cons p X ih =>
  rw [List.map_cons, List.nodup_cons] at nd
  have ih := ih nd.2
  unfold valX mapGet mS at *
  rw [List.map_cons, List.find?_cons, List.find?_cons, List.mem_cons]
  by_cases q : k = p.1
  ·simp only [q, decide_true]
   constructor
   ·intro h
    simp at h
    exact .inl (by rw [← h])
   ·rintro (h | h)
    ·rw [← h]; simp
    ·exact absurd (List.mem_map_of_mem (f := (·.1)) h) nd.1
  ·simp only [q, decide_false]
   rw [ih]
   constructor
   ·exact .inr
   ·rintro (h | h)
    ·exact absurd (by rw [← h]) q
    ·exact h
theorem equalC (h0 : H) (ra rb : Nat) (Xa Xb : List Kp) (ma : MapK encS h0 ra (mS Xa)) (mb : MapK encS h0 rb (mS Xb)) (nb : (Xb.map (·.1)).Nodup) (hz : Xa.length ≤ 1000000) : PushC P (.enter 20 [.map ra, .map rb] h0) fun v h' => ∃ e, SaysG h0 (.bool e) v h' ∧ (e = true ↔ Xa.length = Xb.length ∧ ∀ p, p ∈ Xa → p ∈ Xb) := by
 have la := len_k (P := P) u31a ma [] []
 have lb := len_k (P := P) u31a mb [] []
 rw [show (mS Xa).length = Xa.length by unfold mS; simp] at la
 rw [show (mS Xb).length = Xb.length by unfold mS; simp] at lb
 have lta := ma.lt
 have ltb := mb.lt
 by_cases q : Xa.length = Xb.length
 ·have d1 : decide (Xa.length = Xb.length) = true := decide_eq_true q
  obtain ⟨h3, hrg, rg3, x3, o3, gg3⟩ := range_k (P := P) ma u31a
  have o03 : Og h0 h3 [] := ⟨o3, gg3⟩
  refine pushC_of_codeW (fn := Tryz.f20) (c := bodyC Tryz.f20) Tryz.func20 rfl ?_
  show codeW P 20 34 none _ _ _ _ _
  refine codeW_root ?_
  repeat' (first | ((with_reducible refine st1 ?_); (conv => whnf); (with_reducible refine ⟨?_⟩)) | ((with_reducible refine retW_intro rfl ?_); (conv => arg 2; whnf)) | ((with_reducible first | refine iB ?_ ?_ | refine gWt ?_ ?_ | refine gWf ?_ ?_) <;> intro hb <;> (try simp only [hb])) | (simp only [B, F, reduceLT, reduceLeDiff, reduceEqDiff, reduceAdd, reduceMul, reduceSub, ↓reduceIte, eq_self, la, lb, d1, Bool.not_true, @ex_range, hrg]))
  refine st_loop (fun m ds tm h => ∃ V R, EqI h0 ra rb h0.nx Xa Xb m ds tm h V R) Xa.length rfl ⟨[], Xa, rfl, rfl, List.Perm.refl _, fun p hp => (by cases hp), by simp only [B, F, reduceLT, reduceLeDiff, reduceEqDiff, reduceAdd, reduceMul, reduceSub, ↓reduceIte, eq_self], by simp only [B, F, reduceLT, reduceLeDiff, reduceEqDiff, reduceAdd, reduceMul, reduceSub, ↓reduceIte, eq_self], rg3, o03⟩ (fun m ds tm h hI => ?_)
  obtain ⟨V, R, rfl, rfl, pm, al, t1, t15, rg, oo⟩ := hI
  repeat' (first | (with_reducible refine stopC [0, 0, 0, 1, 0, 1, 1] ?_) | ((with_reducible refine st1 ?_); (conv => whnf); (with_reducible refine ⟨?_⟩)) | ((with_reducible refine retW_intro rfl ?_); (conv => arg 2; whnf)) | ((with_reducible first | refine iB ?_ ?_ | refine gWt ?_ ?_ | refine gWf ?_ ?_) <;> intro hb <;> (try simp only [hb])) | (simp only [B, F, reduceLT, reduceLeDiff, reduceEqDiff, reduceAdd, reduceMul, reduceSub, ↓reduceIte, eq_self]))
  refine ⟨pk1 ?_⟩
  (conv => whnf)
  with_reducible refine ⟨?_⟩
  refine pick_k rfl rfl t15 rg (fun hR => ?_) (fun p R1 R2 h4 hR rg4 x4 o4 gg4 hen => ?_)
  ·obtain rfl : R = []:= by unfold mS at hR; exact List.map_eq_nil_iff.1 hR
   rw [List.append_nil] at pm
   repeat' (first | ((with_reducible refine st1 ?_); (conv => whnf); (with_reducible refine ⟨?_⟩)) | ((with_reducible refine retW_intro rfl ?_); (conv => arg 2; whnf)) | ((with_reducible first | refine iB ?_ ?_ | refine gWt ?_ ?_ | refine gWf ?_ ?_) <;> intro hb <;> (try simp only [hb])) | (simp only [B, F, reduceLT, reduceLeDiff, reduceEqDiff, reduceAdd, reduceMul, reduceSub, ↓reduceIte, eq_self, t1, t15]))
   exact ⟨true, ⟨rfl, oo⟩, fun _ => ⟨q, fun p hp => al p (pm.mem_iff.2 hp)⟩, fun _ => rfl⟩
  ·obtain ⟨S1, ⟨k, s⟩, S2, rfl, e1, rfl, e2⟩ := mS_split hR
   have hen4 := hen h4 rfl rfl
   have rl := rg.lt
   have o04 : Og h0 h4 [] := ⟨⟨by have := oo.1.1; omega, fun c hc _ => by rw [o4.2 c (by have := oo.1.1; omega) (by simp; omega)]; exact oo.1.2 c hc (by simp)⟩, by rw [gg4]; exact oo.2⟩
   have mbh := mb.keep o04.1 (by simp)
   have lk := lookup_k (P := P) u31a k9 z9a mbh k true
   have lk2 := get_mS k Xb
   have lk : lookupA P 25 (.map rb) (.str k) true h4 = some (.tuple [.str (valX k Xb), .bool (mapGet k (mS Xb)).isSome]) := by
    refine lk.trans ?_
    simp only [lk2]
   have hgs := getS_some (k := k) nb s
   have hpa : (k, s) ∈ Xa := pm.mem_iff.1 (by simp)
   cases hm : (mapGet k (mS Xb)).isSome with
   | false =>
    rw [hm] at lk hgs
    repeat' (first | ((with_reducible refine st1 ?_); (conv => whnf); (with_reducible refine ⟨?_⟩)) | ((with_reducible refine retW_intro rfl ?_); (conv => arg 2; whnf)) | ((with_reducible first | refine iB ?_ ?_ | refine gWt ?_ ?_ | refine gWf ?_ ?_) <;> intro hb <;> (try simp only [hb])) | (simp only [B, F, reduceLT, reduceLeDiff, reduceEqDiff, reduceAdd, reduceMul, reduceSub, ↓reduceIte, eq_self, t1, t15, @ex_entry, hen4, @ex_lookup, lk, Bool.not_false]))
    refine ⟨false, ⟨rfl, o04⟩, fun e => (by cases e), fun e => ?_⟩
    have := hgs.2 (e.2 _ hpa)
    simp at this
   | true =>
    rw [hm] at lk hgs
    by_cases q2 : s = valX k Xb
    ·have d2 : decide (s = valX k Xb) = true := decide_eq_true q2
     repeat' (first | ((with_reducible refine st1 ?_); (conv => whnf); (with_reducible refine ⟨?_⟩)) | ((with_reducible refine retW_intro rfl ?_); (conv => arg 2; whnf)) | ((with_reducible first | refine iB ?_ ?_ | refine gWt ?_ ?_ | refine gWf ?_ ?_) <;> intro hb <;> (try simp only [hb])) | (simp only [B, F, reduceLT, reduceLeDiff, reduceEqDiff, reduceAdd, reduceMul, reduceSub, ↓reduceIte, eq_self, t1, t15, @ex_entry, hen4, @ex_lookup, lk, Bool.not_true, d2]))
     refine ⟨(S1 ++ S2).length, by simp, V ++ [(k, s)], S1 ++ S2, rfl, rfl, perm_step pm, fun p hp => ?_, by simp only [B, F, reduceLT, reduceLeDiff, reduceEqDiff, reduceAdd, reduceMul, reduceSub, ↓reduceIte, eq_self, t1], by simp only [B, F, reduceLT, reduceLeDiff, reduceEqDiff, reduceAdd, reduceMul, reduceSub, ↓reduceIte, eq_self, t15], by rw [mS_app, mS_app, e1, e2]; exact rg4, o04⟩
     rcases List.mem_append.1 hp with hp | hp
     ·exact al p hp
     ·rw [List.mem_singleton] at hp; subst hp
      exact hgs.1 (by simp [q2])
    ·have d2 : decide (s = valX k Xb) = false := decide_eq_false q2
     repeat' (first | ((with_reducible refine st1 ?_); (conv => whnf); (with_reducible refine ⟨?_⟩)) | ((with_reducible refine retW_intro rfl ?_); (conv => arg 2; whnf)) | ((with_reducible first | refine iB ?_ ?_ | refine gWt ?_ ?_ | refine gWf ?_ ?_) <;> intro hb <;> (try simp only [hb])) | (simp only [B, F, reduceLT, reduceLeDiff, reduceEqDiff, reduceAdd, reduceMul, reduceSub, ↓reduceIte, eq_self, t1, t15, @ex_entry, hen4, @ex_lookup, lk, Bool.not_true, Bool.not_false, d2]))
     refine ⟨false, ⟨rfl, o04⟩, fun e => (by cases e), fun e => ?_⟩
     have := hgs.2 (e.2 _ hpa)
     simp at this
     exact absurd this.symm q2
 ·have d1 : decide (Xa.length = Xb.length) = false := decide_eq_false q
  refine pushC_of_codeW (fn := Tryz.f20) (c := bodyC Tryz.f20) Tryz.func20 rfl ?_
  show codeW P 20 34 none _ _ _ _ _
  refine codeW_root ?_
  repeat' (first | ((with_reducible refine st1 ?_); (conv => whnf); (with_reducible refine ⟨?_⟩)) | ((with_reducible refine retW_intro rfl ?_); (conv => arg 2; whnf)) | ((with_reducible first | refine iB ?_ ?_ | refine gWt ?_ ?_ | refine gWf ?_ ?_) <;> intro hb <;> (try simp only [hb])) | (simp only [B, F, reduceLT, reduceLeDiff, reduceEqDiff, reduceAdd, reduceMul, reduceSub, ↓reduceIte, eq_self, la, lb, d1, Bool.not_false]))
  exact ⟨false, ⟨rfl, Og.refl _ _⟩, fun e => (by cases e), fun e => absurd e.1 q⟩
end
end Go.Proofs.YtllmfnedkhiomaaGreatDoor.S


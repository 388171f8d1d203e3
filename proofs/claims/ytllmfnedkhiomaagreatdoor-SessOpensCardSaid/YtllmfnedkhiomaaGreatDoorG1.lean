/-
  sess: what a law asks first: walked.
-/
import Derived.Test.YtllmfnedkhiomaaGreatDoorAxI
import Derived.Test.YtllmfnedkhiomaaGreatDoorG0
import Derived.Test.YtllmfnedkhiomaaGreatDoorAxH
import Derived.Test.YtllmfnedkhiomaaGreatDoorAxF
import Derived.Shelf.SortM.Plain
import Derived.Shelf.SortM.SortNone
import Derived.Shelf.SlIter.Nil
import Derived.Ground.GgzProg
import Derived.Ground.SlgmProg
import Derived.Test.YtllmfnedkhiomaaGreatDoorProg
set_option linter.unusedSimpArgs false
set_option linter.unusedVariables false
set_option linter.unusedSectionVars false
open Nat (reduceLT reduceLeDiff reduceEqDiff reduceAdd reduceMul reduceSub)
namespace Go.Proofs.YtllmfnedkhiomaaGreatDoor.S
open Go Go.AX
noncomputable section
set_option maxRecDepth 100000
theorem Og.put {h h1 h2 : H} {r : Nat} (a : Og h h1 []) (o : Og h1 h2 [r]) (hr : h.nx ≤ r) : Og h h2 [] :=
 ⟨⟨Nat.le_trans a.1.1 o.1.1, fun c hc _ => (o.1.2 c (Nat.lt_of_lt_of_le hc a.1.1) (by simp; omega)).trans (a.1.2 c hc (by simp))⟩, o.2.trans a.2⟩
abbrev kHi : List Nat := [115, 48, 48, 48, 48, 48, 48, 48, 48, 48, 48, 48, 55, 45, 48, 48]
theorem key70 : keyP 7 0 = kHi:= by simp [keyP, hexP, hexL_lt, hexD]
theorem text1 : textP 1 [104, 105] = [1, 2, 104, 105]:= by simp [textP, encN]
theorem outHi : outB 7 [1, 2, 104, 105] [] 1 = [(kHi, .str [1, 2, 104, 105])] := by
 unfold outB
 rw [key70]
 rfl
theorem worksC (h : H) (gl : Gl h) : PushC P (.enter 10 [] h) (SaysG h (.bool true)) := by
 have e1 : bytesOf { data := #[104, 105] } = [104, 105] := rfl
 have gx := gl.x
 refine pushC_of_codeW (fn := Tryz.f10) (c := bodyC Tryz.f10) Tryz.func10 rfl ?_
 show codeW P 10 64 none _ _ _ _ _
 refine codeW_root ?_
 repeat' (first | ((with_reducible refine st1 ?_); (conv => whnf); (with_reducible refine ⟨?_⟩)) | ((with_reducible refine retW_intro rfl ?_); (conv => arg 2; whnf)) | ((with_reducible first | refine iB ?_ ?_ | refine gWt ?_ ?_ | refine gWf ?_ ?_) <;> intro hb <;> (try simp only [hb])) | (simp only [B, F, reduceLT, reduceLeDiff, reduceEqDiff, reduceAdd, reduceMul, reduceSub, ↓reduceIte, eq_self]))
 refine ((newC h).call P).mono P ?_
 rintro v h1 ⟨rfl, o1, k1⟩
 have x1 := k1.lt
 have s1 : seenE [] 7 1 = ([], false, 0) := rfl
 repeat' (first | ((with_reducible refine st1 ?_); (conv => whnf); (with_reducible refine ⟨?_⟩)) | ((with_reducible refine retW_intro rfl ?_); (conv => arg 2; whnf)) | ((with_reducible first | refine iB ?_ ?_ | refine gWt ?_ ?_ | refine gWf ?_ ?_) <;> intro hb <;> (try simp only [hb])) | (simp only [B, F, reduceLT, reduceLeDiff, reduceEqDiff, reduceAdd, reduceMul, reduceSub, ↓reduceIte, eq_self]))
 refine ((seenC h1 _ _ [] k1 7 1 (fun n s q => by cases q)).call P).mono P ?_
 rintro v h2 ⟨rfl, o2⟩
 have o12 := o1.t o2
 have k2 := k1.keep o2 (by simp) (by simp)
 rw [s1]
 unfold seenV
 repeat' (first | ((with_reducible refine st1 ?_); (conv => whnf); (with_reducible refine ⟨?_⟩)) | ((with_reducible refine retW_intro rfl ?_); (conv => arg 2; whnf)) | ((with_reducible first | refine iB ?_ ?_ | refine gWt ?_ ?_ | refine gWf ?_ ?_) <;> intro hb <;> (try simp only [hb])) | (simp only [B, F, reduceLT, reduceLeDiff, reduceEqDiff, reduceAdd, reduceMul, reduceSub, ↓reduceIte, eq_self, e1]))
 refine ((doneOk h2 _ _ [] k2 (gl.keep o12 (by simp)) 7 1 [104, 105] (fun n s q => by cases q) (by decide) (by simp) (by decide) [] s1).call P).mono P ?_
 rintro v h3 ⟨ro, rfl, og3, k3, ge3, m3⟩
 have o13 := o12.put og3 (Nat.le_refl _)
 have m3 : MapK encS h3 ro [(kHi, .str [1, 2, 104, 105])] := by
  rw [text1] at m3
  have : cntP [1, 2, 104, 105] = 1 := rfl
  rw [this, show getB 7 [] = none from rfl] at m3
  simp only [outHi] at m3
  exact m3
 have s3 : seenE (putB 7 (1, [104, 105]) []) 7 1 = ([104, 105], true, 0) := rfl
 repeat' (first | ((with_reducible refine st1 ?_); (conv => whnf); (with_reducible refine ⟨?_⟩)) | ((with_reducible refine retW_intro rfl ?_); (conv => arg 2; whnf)) | ((with_reducible first | refine iB ?_ ?_ | refine gWt ?_ ?_ | refine gWf ?_ ?_) <;> intro hb <;> (try simp only [hb])) | (simp only [B, F, reduceLT, reduceLeDiff, reduceEqDiff, reduceAdd, reduceMul, reduceSub, ↓reduceIte, eq_self]))
 refine ((seenC h3 _ _ _ k3 7 1 (fun n s q => by cases q; omega)).call P).mono P ?_
 rintro v h4 ⟨rfl, o4⟩
 have k4 := k3.keep o4 (by simp) (by simp)
 have m4 := m3.keep o4.1 (by simp)
 have hl := len_k (P := P) u31a m4
 have z9 : zeroA P 9 = some (.str []):= by kernel_rfl
 have lk := lookup_k (P := P) u31a k9 z9 m4 kHi false
 have lk : lookupA P 25 (.map ro) (.str kHi) false h4 = some (.str [1, 2, 104, 105]) := lk
 rw [s3]
 unfold seenV
 have e8 : bytesOf { data := #[1, 2, 104, 105] } = [1, 2, 104, 105] := rfl
 have e9 : bytesOf { data := #[115, 48, 48, 48, 48, 48, 48, 48, 48, 48, 48, 48, 55, 45, 48, 48] } = kHi := rfl
 repeat' (first | ((with_reducible refine st1 ?_); (conv => whnf); (with_reducible refine ⟨?_⟩)) | ((with_reducible refine retW_intro rfl ?_); (conv => arg 2; whnf)) | ((with_reducible first | refine iB ?_ ?_ | refine gWt ?_ ?_ | refine gWf ?_ ?_) <;> intro hb <;> (try simp only [hb])) | (simp only [B, F, reduceLT, reduceLeDiff, reduceEqDiff, reduceAdd, reduceMul, reduceSub, ↓reduceIte, eq_self, hl, @ex_lookup, e9, lk, e8, e1, Bool.not_false]))
 refine ((lenC h4 _ _ _ k4).call P).mono P ?_
 rintro v h5 ⟨rfl, o5⟩
 have l1 : (putB 7 (1, [104, 105]) []).length = 1 := rfl
 repeat' (first | ((with_reducible refine st1 ?_); (conv => whnf); (with_reducible refine ⟨?_⟩)) | ((with_reducible refine retW_intro rfl ?_); (conv => arg 2; whnf)) | ((with_reducible first | refine iB ?_ ?_ | refine gWt ?_ ?_ | refine gWf ?_ ?_) <;> intro hb <;> (try simp only [hb])) | (simp only [B, F, reduceLT, reduceLeDiff, reduceEqDiff, reduceAdd, reduceMul, reduceSub, ↓reduceIte, eq_self, l1]))
 exact ⟨rfl, (o13.t o4).t o5⟩
end
end Go.Proofs.YtllmfnedkhiomaaGreatDoor.S

namespace Go.AX
noncomputable section
open Go.RowKit
section
variable {P : Program} {size : Nat}
theorem bi_append_0 {h : H} {t u e : TypeId} {info : TypeInfo} {u' : TypeDesc} (hu : P.underlying t = some (.slice e)) (hu2 : P.underlying u = some u') (hn : ∀ k, u' ≠ .int k) (hi : P.info? e = some info) (hk : appendOk P e info = true)
  (s : AV) (ts : List TypeId) (xs : List AV) : builtinA P .append (t :: u :: ts) (s :: .slice0 :: xs) h = appendN e info.size s 0 [] h := by
 cases u' with
 | int k => exact absurd rfl (hn k)
 | _ => simp only [builtinA, hu, hu2, appendA, hi, lenOfA, hk, srcA]
theorem appendN_0 {h : H} {e size base : Nat} {l0 : AV} {n0 : Nat} {cs0 : List AV} (hg : Grows size base h l0 n0 cs0) : appendN e size l0 0 [] h = .val l0 h := by
 unfold appendN
 rw [Nat.zero_mul]
 cases hg with
 | none => rfl
 | cell => rfl
theorem put_g {h h' : H} {b o : Nat} {l : List AV} (e : h.put b o l = some h') : h'.g = h.g := by
 unfold H.put at e
 repeat' (split at e)
 all_goals (first | (cases e; done) | (cases e; rfl))
theorem appendN_g {e size n : Nat} {s : AV} {new : List AV} {h h' : H} {v : AV} (hx : appendN e size s n new h = .val v h') : h'.g = h.g := by
 unfold appendN at hx
 repeat' (split at hx)
 all_goals (first | (cases hx; done) | (cases hx; rfl) | (rename_i hp; cases hx; exact put_g hp))
theorem Grows.wk {size a b : Nat} {h : H} {v : AV} {n : Nat} {cs : List AV} (hg : Grows size b h v n cs) (hab : a ≤ b) : Grows size a h v n cs := by
 cases hg with
 | none => exact .none
 | cell c n cs t ty h1 h2 h3 h4 h5 => exact .cell c n cs t ty (Nat.le_trans hab h1) h2 h3 h4 h5
theorem exW_growsG {elem : TypeId} {size base : Nat} {h : H} {v : AV} {n m : Nat} {cs new : List AV} {K : AV → H → Prop} (hg : Grows size base h v n cs) (hb : base ≤ h.nx) (hm : 0 < m) (hs : 0 < size) (hl : new.length = m * size) (hsm : n + m ≤ 4194304)
  (hk : ∀ v' h', Grows size base h' v' (n + m) (cs ++ new) → h'.nx = h.nx + 1 → (∀ b, b < h.nx → blkOf v ≠ some b → h'.t.get b = h.t.get b) → blkOf v' = some h.nx → h'.g = h.g → K v' h') : exW P (appendN elem size v m new h) K := by
 obtain ⟨v', h', e, a, b, c, d⟩ := appendN_grows (elem := elem) hg hb hm hs hl hsm
 have g := appendN_g e
 rw [e]; exact hk v' h' a b c d g
@[reducible] def AppTo (size base : Nat) (h : H) (l0 : AV) (n : Nat) (cs : List AV) (K : AV → H → Prop) : Prop :=
 ∀ v' h', Grows size base h' v' n cs → h.nx ≤ h'.nx → (∀ b, b < h.nx → blkOf l0 ≠ some b → h'.t.get b = h.t.get b) → (∀ b, blkOf v' = some b → blkOf l0 = some b ∨ h.nx ≤ b) → h'.g = h.g → K v' h'
theorem app_none {t e : TypeId} (hu : P.underlying t = some (.slice e)) (hi : infoOk P e size = true) {base : Nat} {h : H} {l0 : AV} {n0 : Nat} {cs0 : List AV} (hg : Grows size base h l0 n0 cs0) {v2 : AV} (hv : v2 = .nilslice ∨ v2 = .slice0) {K : AV → H → Prop} (hk : AppTo size base h l0 n0 cs0 K) :
  exW P (builtinA P .append [t, t] [l0, v2] h) K := by
 unfold infoOk at hi
 split at hi
 ·rename_i info hinfo
  rw [Bool.and_eq_true] at hi
  have e2 := Nat.eq_of_beq_eq_true hi.2
  have : builtinA P .append [t, t] [l0, v2] h = .val l0 h := by
   rcases hv with rfl | rfl
   ·rw [bi_append_nil hu hu (fun k h => by cases h) hinfo hi.1, e2]; exact appendN_0 hg
   ·rw [bi_append_0 hu hu (fun k h => by cases h) hinfo hi.1, e2]; exact appendN_0 hg
  rw [this]
  exact hk l0 h hg (Nat.le_refl _) (fun _ _ _ => rfl) (fun _ e => .inl e) rfl
 ·cases hi
theorem app_some (hs0 : 0 < size) {t e : TypeId} (hu : P.underlying t = some (.slice e)) (hi : infoOk P e size = true) {base : Nat} {h : H} {l0 : AV} {n0 : Nat} {cs0 : List AV} (hg : Grows size base h l0 n0 cs0) (hb : base ≤ h.nx) {b o k : Nat} {c : Cap} {new : List AV} (hr : h.row b o (k * size) = some new) (hl : new.length = k * size) (hk0 : 0 < k) (hsm : n0 + k ≤ 4194304)
  {K : AV → H → Prop} (hk : AppTo size base h l0 (n0 + k) (cs0 ++ new) K) : exW P (builtinA P .append [t, t] [l0, .slice b o k c] h) K := by
 rw [bi_append2 hu hu (fun k h => by cases h) hi, hr]
 exact exW_growsG hg hb hk0 hs0 hl hsm fun v' h' g x old bl gg => hk v' h' g (by omega) old (fun b e => by rw [bl] at e; cases e; exact .inr (Nat.le_refl _)) gg
theorem app_zero {t e : TypeId} (hu : P.underlying t = some (.slice e)) (hi : infoOk P e size = true) {base : Nat} {h : H} {l0 : AV} {n0 : Nat} {cs0 : List AV} (hg : Grows size base h l0 n0 cs0) {b o : Nat} {c : Cap} (hr : h.row b o 0 = some [])
  {K : AV → H → Prop} (hk : AppTo size base h l0 n0 cs0 K) : exW P (builtinA P .append [t, t] [l0, .slice b o 0 c] h) K := by
 rw [bi_append2 hu hu (fun k h => by cases h) hi, Nat.zero_mul, hr]
 show exW P (appendN e size l0 0 [] h) K
 rw [appendN_0 hg]
 exact hk l0 h hg (Nat.le_refl _) (fun _ _ _ => rfl) (fun _ e => .inl e) rfl
theorem grow_rowB {base : Nat} {h : H} {b n : Nat} {cs : List AV} {t : T AV} {ty : Nat} (h2 : b < h.nx) (h4 : h.t.get b = some (.cells (n * size) t ⟨size, ty⟩ false)) (h5 : ∀ j, t.get j = cs[j]?) : RowB h b (n * size) size ty cs := ⟨h2, t, h4, fun j _ => h5 j⟩
theorem row_zero {h : H} {b m sz ty : Nat} {cs : List AV} (hr : RowB h b m sz ty cs) (o : Nat) : h.row b o 0 = some [] := by
 obtain ⟨-, t, hg, -⟩ := hr
 unfold H.row; rw [hg]; simp only [loadRow_eq]; rfl
theorem ex_sl_lh {tm : T AV} {h : H} (t : TypeId) (x a b : Operand) : execA P tm h (.slice t x (some a) (some b) none) = ob (evalA tm x) fun v => ob (evalA tm a) fun l => ob (evalA tm b) fun r => ob (sliceA P t v (some l) (some r) none) fun v => .val v h := by
 simp only [execA, evalO]
 cases evalA tm x with
 | none => cases evalA tm a <;> cases evalA tm b <;> rfl
 | some v => cases evalA tm a with
  | none => cases evalA tm b <;> rfl
  | some l => cases evalA tm b with
   | none => rfl
   | some r => show optV h (sliceA P t v (some l) (some r) none) = ob (sliceA P t v (some l) (some r) none) _; cases sliceA P t v (some l) (some r) none <;> rfl
theorem app_row (hs0 : 0 < size) {t e : TypeId} (hu : P.underlying t = some (.slice e)) (hi : infoOk P e size = true) {base b2 : Nat} {h : H} {l0 s : AV} {n0 n : Nat} {cs0 cs : List AV} (hg : Grows size base h l0 n0 cs0) (hs : Grows size b2 h s n cs) (hb : base ≤ h.nx) (hz : n0 + n ≤ 4194304)
  {K : AV → H → Prop} (hk : AppTo size base h l0 (n0 + n) (cs0 ++ cs) K) : exW P (builtinA P .append [t, t] [l0, s] h) K := by
 cases hs with
 | none => exact app_none hu hi hg (.inl rfl) (by simpa using hk)
 | cell b n cs t' ty h1 h2 h3 h4 h5 =>
  have hr := grow_rowB (base := b2) h2 h4 h5
  rcases Nat.eq_zero_or_pos n with rfl | q
  ·have : cs = [] := List.length_eq_zero_iff.1 (by simpa using h3)
   subst this
   exact app_zero hu hi hg (row_zero hr 0) (by simpa using hk)
  ·have m2 : 0 < n * size := Nat.mul_pos q hs0
   have hrow := hr.row (o := 0) (n := n * size) (by omega) m2
   rw [List.drop_zero, List.take_of_length_le (by omega)] at hrow
   exact app_some hs0 hu hi hg hb hrow (by omega) q (by omega) hk
theorem Grows.wr {base : Nat} {h : H} {b n : Nat} {cap : Cap} {cs : List AV} (hg : Grows size base h (.slice b 0 n cap) n cs) : wrAt h b = true := by
 cases hg with
 | cell b n cs t' ty h1 h2 h3 h4 h5 => unfold wrAt; rw [h4]
theorem Grows.at_ {base : Nat} {h : H} {b n : Nat} {cap : Cap} {cs : List AV} (hg : Grows size base h (.slice b 0 n cap) n cs) (j : Nat) : cellAt h b j = cs[j]? := by
 cases hg with
 | cell b n cs t' ty h1 h2 h3 h4 h5 => unfold cellAt; rw [h4]; exact h5 j
end
end
end Go.AX

namespace Go.AX
noncomputable section
open Go.RowKit
section
variable {κ : Type} {enc : κ → AV}
structure RngK (enc : κ → AV) (h : H) (it r : Nat) (L V R : List (κ × AV)) : Prop where
 has : ∃ es clock seen, mapOf (h.t.get r) = some (es, clock) ∧ es.map entP = L.map (encP enc) ∧ (es.map (·.2.2)).Nodup ∧ (∀ e, e ∈ es → e.2.2 < clock) ∧ h.t.get it = some (.mapIter (some r) clock seen clock) ∧
  (es.filter fun e => notIn seen e.2.2).map entP = R.map (encP enc)
 pm : (V ++ R).Perm L
 lt : it < h.nx
 ltr : r < h.nx
theorem RngK.get {h h' : H} {it r : Nat} {L V R : List (κ × AV)} (k : RngK enc h it r L V R) (hx : h.nx ≤ h'.nx) (e1 : h'.t.get it = h.t.get it) (e2 : h'.t.get r = h.t.get r) : RngK enc h' it r L V R :=
 ⟨by obtain ⟨es, c, s, a, b, c', d, e, f⟩ := k.has; exact ⟨es, c, s, by rw [e2]; exact a, b, c', d, by rw [e1]; exact e, f⟩, k.pm, Nat.lt_of_lt_of_le k.lt hx, Nat.lt_of_lt_of_le k.ltr hx⟩
theorem RngK.keep {h h' : H} {it r : Nat} {L V R : List (κ × AV)} (k : RngK enc h it r L V R) {S : List Nat} (o : Only h h' S) (h1 : it ∉ S) (h2 : r ∉ S) : RngK enc h' it r L V R := k.get o.1 (o.2 it k.lt h1) (o.2 r k.ltr h2)
structure MapR (enc : κ → AV) (h : H) (r : Nat) (L : List (κ × AV)) : Prop where
 has : ∃ es clock, mapOf (h.t.get r) = some (es, clock) ∧ es.map entP = L.map (encP enc) ∧ (es.map (·.2.2)).Nodup ∧ ∀ e, e ∈ es → e.2.2 < clock
 lt : r < h.nx
theorem MapK.ro [DecidableEq κ] {h : H} {r : Nat} {L : List (κ × AV)} (m : MapK enc h r L) : MapR enc h r L := by
 obtain ⟨es, c, h1, h2, h3, h4⟩ := m.has
 exact ⟨⟨es, c, by rw [h1]; rfl, h2, h3, h4⟩, m.lt⟩
variable {P : Program}
theorem range_r {h : H} {r : Nat} {L : List (κ × AV)} (m : MapR enc h r L) {t kt elem : TypeId} (ht : P.underlying t = some (.map kt elem)) :
  ∃ h', rangeA P t (.map r) h = .val (.ptr h.nx 0) h' ∧ RngK enc h' h.nx r L [] L ∧ h'.nx = h.nx + 1 ∧ Only h h' [] ∧ h'.g = h.g := by
 obtain ⟨es, c, h1, h2, h3, h4⟩ := m.has
 have hlt := m.lt
 have ho : Only h (h.alloc (.mapIter (some r) c [] c)) [] := ⟨Nat.le_succ _, fun b hb _ => by
  show (h.t.set h.nx _).get b = _
  rw [T.get_set, if_neg (by omega)]⟩
 refine ⟨h.alloc (.mapIter (some r) c [] c), by unfold rangeA; simp only [ht, h1], ⟨⟨es, c, [], by rw [ho.2 r hlt (by simp)]; exact h1, h2, h3, h4, ?_, ?_⟩, by simp, Nat.lt_succ_self _, Nat.lt_succ_of_lt hlt⟩, rfl, ho, rfl⟩
 ·show (h.t.set h.nx _).get h.nx = _
  rw [T.get_set, if_pos rfl]
 ·rw [← h2]
  congr 1
  exact List.filter_eq_self.2 fun e _ => rfl
theorem range_k {h : H} {r : Nat} {L : List (κ × AV)} [DecidableEq κ] (m : MapK enc h r L) {t kt elem : TypeId} (ht : P.underlying t = some (.map kt elem)) :
  ∃ h', rangeA P t (.map r) h = .val (.ptr h.nx 0) h' ∧ RngK enc h' h.nx r L [] L ∧ h'.nx = h.nx + 1 ∧ Only h h' [] ∧ h'.g = h.g := range_r m.ro ht
theorem beqF (x b : Nat) : Nat.beq x b = decide (x = b) := by
 cases q : Nat.beq x b with
 | true => have := Nat.eq_of_beq_eq_true q; simp [this]
 | false => have := Nat.ne_of_beq_eq_false q; simp [this]
theorem notIn_app (s : List Nat) (x b : Nat) : notIn (s ++ [b]) x = (notIn s x && !Nat.beq x b) := by
 rw [notIn_eq, notIn_eq, beqF, Bool.eq_iff_iff]
 simp [List.mem_append, not_or]
theorem findStamp_at : ∀ {es : List (AV × AV × Nat)} {e : AV × AV × Nat}, e ∈ es → (es.map (·.2.2)).Nodup → findStamp e.2.2 es = some (.tuple [e.1, e.2.1])
 | [], e, he, _ => by cases he
 | a :: es, e, he, hn => by
  rw [List.map_cons, List.nodup_cons] at hn
  unfold findStamp
  rcases List.mem_cons.1 he with rfl | he
  ·rw [Nat.beq_refl]
  ·have : Nat.beq a.2.2 e.2.2 = false := by
    cases q : Nat.beq a.2.2 e.2.2 with
    | false => rfl
    | true =>
     have := Nat.eq_of_beq_eq_true q
     exact absurd (by rw [this]; exact List.mem_map_of_mem he) hn.1
   rw [this]
   exact findStamp_at he hn.2
theorem lastOf_app : ∀ (l : List Nat) (b : Nat), lastOf (l ++ [b]) = some b
 | [], b => rfl
 | x :: l, b => by
  have ih := lastOf_app l b
  cases l with
  | nil => rfl
  | cons y l => exact ih
theorem next_k {h : H} {it r : Nat} {L V R : List (κ × AV)} (k : RngK enc h it r L V R) :
  ∃ C, nextL (.ptr it 0) h = some C ∧ ∀ y, y ∈ C → (R = [] ∧ y = (.tuple [.bool false], h)) ∨
   ∃ p R1 R2, R = R1 ++ p :: R2 ∧ y.1 = .tuple [.bool true, enc p.1, p.2] ∧ RngK enc y.2 it r L (V ++ [p]) (R1 ++ R2) ∧ y.2.nx = h.nx ∧ Only h y.2 [it] ∧ y.2.g = h.g ∧
    ∀ h2, h2.t.get it = y.2.t.get it → h2.t.get r = y.2.t.get r → entryA (.ptr it 0) h2 = some (.tuple [enc p.1, p.2]) := by
 obtain ⟨es, clock, seen, h1, h2, h3, h4, h5, h6⟩ := k.has
 have hne : r ≠ it := by
  intro e; subst e; rw [h5] at h1; cases h1
 have hall : ((es.all fun e => Nat.blt e.2.2 clock) && Nat.ble clock clock) = true := by
  rw [Bool.and_eq_true]
  refine ⟨List.all_eq_true.2 fun e he => ?_, Nat.ble_self_eq_true _⟩
  rw [Nat.blt_eq]; exact h4 e he
 obtain ⟨F, hF⟩ : ∃ F, F = es.filter fun e => notIn seen e.2.2 := ⟨_, rfl⟩
 rw [← hF] at h6
 cases hc : F with
 | nil =>
  refine ⟨[(.tuple [.bool false], h)], ?_, fun y hy => .inl ⟨?_, List.mem_singleton.1 hy⟩⟩
  ·unfold nextL
   simp only [h5, h1, hall, ← hF, hc]
  ·rw [hc] at h6; exact List.map_eq_nil_iff.1 h6.symm
 | cons u us =>
  refine ⟨F.map fun e => (.tuple [.bool true, e.1, e.2.1], { h with t := h.t.set it (some (.mapIter (some r) clock (seen ++ [e.2.2]) clock)) }), ?_, fun y hy => .inr ?_⟩
  ·unfold nextL
   simp only [h5, h1, hall, ← hF, hc]
  ·obtain ⟨e, he, rfl⟩ := List.mem_map.1 hy
   obtain ⟨F1, F2, hF12⟩ := List.append_of_mem he
   have hees : e ∈ es:= by rw [hF] at he; exact (List.mem_filter.1 he).1
   have hsub : (F.map (·.2.2)).Nodup:= by rw [hF]; exact h3.sublist (List.filter_sublist.map _)
   rw [hF12, List.map_append, List.map_cons] at h6
   obtain ⟨R1, R', hR, q1, q2⟩ := List.map_eq_append_iff.1 h6.symm
   obtain ⟨p, R2, hR', q3, q4⟩ := List.map_eq_cons_iff.1 q2
   subst hR'
   have e1 : e.1 = enc p.1 := (congrArg Prod.fst q3).symm
   have e2 : e.2.1 = p.2 := (congrArg Prod.snd q3).symm
   have ho : Only h { h with t := h.t.set it (some (.mapIter (some r) clock (seen ++ [e.2.2]) clock)) } [it] := ⟨Nat.le_refl _, fun b _ hn => by rw [T.get_set, if_neg (by simpa using hn)]⟩
   have hg1 : ∀ x, mapOf ((h.t.set it (some x)).get r) = some (es, clock) := fun x => by rw [T.get_set, if_neg hne]; exact h1
   have hg2 : ∀ x, (h.t.set it (some x)).get it = some x := fun x => by rw [T.get_set, if_pos rfl]
   have hfil : (es.filter fun x => notIn (seen ++ [e.2.2]) x.2.2) = F1 ++ F2 := by
    have a1 : (es.filter fun x => notIn (seen ++ [e.2.2]) x.2.2) = F.filter fun x => !Nat.beq x.2.2 e.2.2 := by
     rw [hF, List.filter_filter]
     congr 1
     funext x
     rw [notIn_app, Bool.and_comm]
    rw [a1, hF12, List.filter_append, List.filter_cons]
    rw [hF12, List.map_append, List.map_cons, List.nodup_append, List.nodup_cons] at hsub
    have b1 : F1.filter (fun x => !Nat.beq x.2.2 e.2.2) = F1 := List.filter_eq_self.2 fun x hx => by
     have : x.2.2 ≠ e.2.2 := hsub.2.2 x.2.2 (List.mem_map_of_mem hx) e.2.2 (by simp)
     rw [beqF]; simp [this]
    have b2 : F2.filter (fun x => !Nat.beq x.2.2 e.2.2) = F2 := List.filter_eq_self.2 fun x hx => by
     have : x.2.2 ≠ e.2.2 := fun q => hsub.2.1.1 (by rw [← q]; exact List.mem_map_of_mem hx)
     rw [beqF]; simp [this]
    rw [b1, b2, Nat.beq_refl]
    rfl
   refine ⟨p, R1, R2, hR, by rw [← e1, ← e2], ⟨⟨es, clock, seen ++ [e.2.2], hg1 _, h2, h3, h4, hg2 _, ?_⟩, ?_, k.lt, k.ltr⟩, rfl, ho, rfl, fun hh g1 g2 => ?_⟩
   ·rw [hfil, List.map_append, List.map_append, q1, q4]
   ·refine List.Perm.trans ?_ k.pm
    rw [hR, List.append_assoc]
    refine List.Perm.append_left V ?_
    rw [List.singleton_append]
    exact List.perm_middle.symm
   ·rw [hg2] at g1
    have g2 := (congrArg mapOf g2).trans (hg1 _)
    unfold entryA
    simp only [g1, g2, lastOf_app, Nat.beq_refl, findStamp_at hees h3, e1, e2]
variable {nt : Nat} {tm : T AV} {h : H}
theorem pick_k {ops : Array Oper} {o : Oper} {l : List Oper} {Q : T AV → H → Prop} {t : Tmp} {it r : Nat} {L V R : List (κ × AV)} (hg : o.guard = none) (hop : o.op = .next (.tmp t) false) (ht : tm.get t = some (.ptr it 0)) (k : RngK enc h it r L V R)
  (h0 : R = [] → opsW P nt ops l (putT nt tm o.dst (.tuple [.bool false])) h Q)
  (h1 : ∀ p R1 R2 h2, R = R1 ++ p :: R2 → RngK enc h2 it r L (V ++ [p]) (R1 ++ R2) → h2.nx = h.nx → Only h h2 [it] → h2.g = h.g → (∀ h3, h3.t.get it = h2.t.get it → h3.t.get r = h2.t.get r → entryA (.ptr it 0) h3 = some (.tuple [enc p.1, p.2])) →
   opsW P nt ops l (putT nt tm o.dst (.tuple [.bool true, enc p.1, p.2])) h2 Q) : pickW P nt ops (o :: l) tm h Q := by
 obtain ⟨C, hC, hall⟩ := next_k k
 refine ⟨hg, C, ?_, fun y hy => ?_⟩
 ·rw [hop]
  unfold pickA
  have : evalA tm (.tmp t) = some (.ptr it 0):= by unfold evalA; simp only [ht]
  simp only [this]
  exact hC
 ·rcases hall y hy with ⟨a, rfl⟩ | ⟨p, R1, R2, a, b, c, d, e, f, g⟩
  ·exact h0 a
  ·rw [b]; exact h1 p R1 R2 y.2 a c d e f g
theorem ex_range (t : TypeId) (x : Operand) : execA P tm h (.range t x) = ob (evalA tm x) fun v => rangeA P t v h := by
 simp only [execA]
 cases evalA tm x <;> rfl
theorem ex_entry (x : Operand) : execA P tm h (.entry x) = ob (evalA tm x) fun v => ob (entryA v h) fun v => .val v h := by
 simp only [execA]
 cases evalA tm x with
 | none => rfl
 | some v => show optV h (entryA v h) = ob (entryA v h) _; cases entryA v h <;> rfl
end
structure StopC (p : Prop) : Prop where
 go : p
theorem stopC {P : Program} {fn nt : Nat} {ro : Option Nat} {c : Code} (rp : List Nat) {ds : List Nat} {tm : T AV} {h : H} {Q : KQ} (hw : StopC (codeW P fn nt ro (codeI c rp) ds tm h Q)) : codeW P fn nt ro (codeI c rp) ds tm h Q := hw.go
def pk1F (P : Program) (nt : Nat) (ds : List Nat) (tm : T AV) (h : H) (Q : KQ) : Code → Prop
 | .region _ ops false => Hold (pickW P nt ops ops.toList tm h (Q .norm ds))
 | _ => False
theorem pk1 {P : Program} {fn nt : Nat} {ro : Option Nat} {c : Code} {rp : List Nat} {ds : List Nat} {tm : T AV} {h : H} {Q : KQ} (hw : pk1F P nt ds tm h Q (codeI c rp)) : codeW P fn nt ro (codeI c rp) ds tm h Q := by
 cases e : codeI c rp with
 | region i ops d =>
  rw [e] at hw
  cases d with
  | false => exact .inr hw.h
  | true => exact absurd hw id
 | _ => rw [e] at hw; exact absurd hw id
end
end Go.AX

namespace Go.Proofs.YtllmfnedkhiomaaGreatDoor.S
open Go Go.AX
noncomputable section
set_option maxRecDepth 100000
theorem conv1 {h : H} (n : Nat) (hn : n < 256) : convR P 37 9 (.slice h.nx 0 1 (.exact 1)) (h.newCells 5 [.int .u8 (.ofNat n)]) = .val (.str [n]) (h.newCells 5 [.int .u8 (.ofNat n)]) :=
 conv_bytes (l := [n]) rfl (by simp) (fun j hj => by
  rw [cellAt_new, if_pos rfl, Nat.zero_add]
  match j, hj with
  | 0, _ => rfl) (fun c hc => by rw [List.mem_singleton] at hc; omega)
theorem rm256 (h : H) (t : TypeId) (x y : Operand) (m : Nat) : binR P h .rem t x y (.int .u64 (.ofNat m)) (.int .u64 (.ofNat 256)) = .val (.int .u64 (.ofNat (m % 256))) h := b_rem _ _ _ rfl
theorem rm16 (h : H) (t : TypeId) (x y : Operand) (m : Nat) : binR P h .rem t x y (.int .u64 (.ofNat m)) (.int .u64 (.ofNat 16)) = .val (.int .u64 (.ofNat (m % 16))) h := b_rem _ _ _ rfl
theorem qu256 {m : Nat} (hm : m < M64) (h : H) (t : TypeId) (x y : Operand) : binR P h .quo t x y (.int .u64 (.ofNat m)) (.int .u64 (.ofNat 256)) = .val (.int .u64 (.ofNat (m / 256))) h := by
 rw [b_quo _ _ _ rfl]
 have : (Int.ofNat m).tdiv (Int.ofNat 256) = Int.ofNat (m / 256) := rfl
 rw [this, u64_nat (by have : M64 = 18446744073709551616 := rfl; omega)]
theorem qu16 {m : Nat} (hm : m < M64) (h : H) (t : TypeId) (x y : Operand) : binR P h .quo t x y (.int .u64 (.ofNat m)) (.int .u64 (.ofNat 16)) = .val (.int .u64 (.ofNat (m / 16))) h := by
 rw [b_quo _ _ _ rfl]
 have : (Int.ofNat m).tdiv (Int.ofNat 16) = Int.ofNat (m / 16) := rfl
 rw [this, u64_nat (by have : M64 = 18446744073709551616 := rfl; omega)]
structure RpI (h0 : H) (n : Nat) (s : List Nat) (m : Nat) (ds : List Nat) (tm : T AV) (h : H) (suf : List Nat) : Prop where
 ds : ds = []
 le : m < M64
 hs : b256 n = b256 m ++ suf
 t0 : tm.get 0 = some (.str s)
 t1 : tm.get 1 = some (.int .u64 (.ofNat m))
 t5 : tm.get 5 = some (.str suf)
 oo : Og h0 h []
theorem rPutN (h0 : H) (n : Nat) (s : List Nat) (hn : n < M64) (hs : s.length ≤ 10000) : PushC P (.enter 43 [.str s, .int .u64 (.ofNat n)] h0) (SaysG h0 (.str (s ++ encN n))) := by
 have e0 : bytesOf { data := #[] } = [] := rfl
 refine pushC_of_codeW (fn := Tryz.f43) (c := bodyC Tryz.f43) Tryz.func43 rfl ?_
 show codeW P 43 35 none _ _ _ _ _
 refine codeW_root ?_
 by_cases hn8 : n < 248
 ·have hlt : decide (n < 248) = true := decide_eq_true hn8
  have w8 : wrapF .u8 (Int.ofNat n) = Int.ofNat n:= by rw [u8_mod, Nat.mod_eq_of_lt (by omega)]
  have he : encN n = [n]:= by unfold encN; rw [if_pos hn8]
  rw [he]
  have cv := conv1 (h := h0) n (by omega)
  have ad := fun h t x y => b_addS (a := s) (b := [n]) (by simp; omega) h t x y
  repeat' (first | ((with_reducible refine st1 ?_); (conv => whnf); (with_reducible refine ⟨?_⟩)) | ((with_reducible refine retW_intro rfl ?_); (conv => arg 2; whnf)) | ((with_reducible first | refine iB ?_ ?_ | refine gWt ?_ ?_ | refine gWf ?_ ?_) <;> intro hb <;> (try simp only [hb])) | (simp only [B, F, reduceLT, reduceLeDiff, reduceEqDiff, reduceAdd, reduceMul, reduceSub, ↓reduceIte, eq_self, e0, hlt, w8, cv, ad]))
  exact ⟨rfl, (Og.refl _ _).new _ _⟩
 ·have hlt : decide (n < 248) = false := decide_eq_false hn8
  have hd8 : (b256 n).length ≤ 8 := b256_len 8 n hn
  repeat' (first | ((with_reducible refine st1 ?_); (conv => whnf); (with_reducible refine ⟨?_⟩)) | ((with_reducible refine retW_intro rfl ?_); (conv => arg 2; whnf)) | ((with_reducible first | refine iB ?_ ?_ | refine gWt ?_ ?_ | refine gWf ?_ ?_) <;> intro hb <;> (try simp only [hb])) | (simp only [B, F, reduceLT, reduceLeDiff, reduceEqDiff, reduceAdd, reduceMul, reduceSub, ↓reduceIte, eq_self, e0, hlt]))
  refine st_loop (fun m ds tm h' => ∃ suf, RpI h0 n s m ds tm h' suf) n rfl ⟨[], rfl, hn, by simp, by simp only [B, F, reduceLT, reduceLeDiff, reduceEqDiff, reduceAdd, reduceMul, reduceSub, ↓reduceIte, eq_self], by simp only [B, F, reduceLT, reduceLeDiff, reduceEqDiff, reduceAdd, reduceMul, reduceSub, ↓reduceIte, eq_self], by simp only [B, F, reduceLT, reduceLeDiff, reduceEqDiff, reduceAdd, reduceMul, reduceSub, ↓reduceIte, eq_self], Og.refl _ _⟩ (fun m ds tm h3 hI => ?_)
  obtain ⟨suf, rfl, hm, hs3, t0, t1, t5, o3⟩ := hI
  by_cases hz : 0 < m
  ·have d1 : decide (0 < m) = true := decide_eq_true hz
   have w8 : wrapF .u8 (Int.ofNat (m % 256)) = Int.ofNat (m % 256):= by rw [u8_mod, Nat.mod_mod]
   have hge := b256_s (n := m) (by omega)
   have hl3 : suf.length ≤ 8:= by have := congrArg List.length hs3; simp at this; omega
   have cv := conv1 (h := h3) (m % 256) (Nat.mod_lt _ (by omega))
   have ad := fun h t x y => b_addS (a := [m % 256]) (b := suf) (by simp; omega) h t x y
   have qu := qu256 hm
   repeat' (first | ((with_reducible refine st1 ?_); (conv => whnf); (with_reducible refine ⟨?_⟩)) | ((with_reducible refine retW_intro rfl ?_); (conv => arg 2; whnf)) | ((with_reducible first | refine iB ?_ ?_ | refine gWt ?_ ?_ | refine gWf ?_ ?_) <;> intro hb <;> (try simp only [hb])) | (simp only [B, F, reduceLT, reduceLeDiff, reduceEqDiff, reduceAdd, reduceMul, reduceSub, ↓reduceIte, eq_self, t0, t1, t5, d1, rm256, qu, w8, cv, ad]))
   refine ⟨m / 256, by omega, _, rfl, by omega, by rw [hs3, hge, List.append_assoc], by simp only [B, F, reduceLT, reduceLeDiff, reduceEqDiff, reduceAdd, reduceMul, reduceSub, ↓reduceIte, eq_self, t0], by simp only [B, F, reduceLT, reduceLeDiff, reduceEqDiff, reduceAdd, reduceMul, reduceSub, ↓reduceIte, eq_self], by simp only [B, F, reduceLT, reduceLeDiff, reduceEqDiff, reduceAdd, reduceMul, reduceSub, ↓reduceIte, eq_self], o3.new _ _⟩
  ·have d1 : decide (0 < m) = false := decide_eq_false hz
   obtain rfl : m = 0:= by omega
   rw [b256_0, List.nil_append] at hs3
   have he : encN n = (247 + (b256 n).length) :: b256 n:= by unfold encN; rw [if_neg hn8]
   rw [← hs3] at t5
   have w5 : wrapF .i64 (Int.ofNat 247 + Int.ofNat (b256 n).length) = .ofNat (247 + (b256 n).length) := i64_add (by omega)
   have w6 : wrapF .u8 (Int.ofNat (247 + (b256 n).length)) = .ofNat (247 + (b256 n).length):= by rw [u8_mod, Nat.mod_eq_of_lt (by omega)]
   have cv := conv1 (h := h3) (247 + (b256 n).length) (by omega)
   have ad := fun h t x y => b_addS (a := s) (b := [247 + (b256 n).length]) (by simp; omega) h t x y
   have ad2 := fun h t x y => b_addS (a := s ++ [247 + (b256 n).length]) (b := b256 n) (by simp; omega) h t x y
   repeat' (first | ((with_reducible refine st1 ?_); (conv => whnf); (with_reducible refine ⟨?_⟩)) | ((with_reducible refine retW_intro rfl ?_); (conv => arg 2; whnf)) | ((with_reducible first | refine iB ?_ ?_ | refine gWt ?_ ?_ | refine gWf ?_ ?_) <;> intro hb <;> (try simp only [hb])) | (simp only [B, F, reduceLT, reduceLeDiff, reduceEqDiff, reduceAdd, reduceMul, reduceSub, ↓reduceIte, eq_self, t0, t1, t5, d1, w5, w6, cv, ad, ad2]))
   exact ⟨by rw [he, List.append_assoc]; rfl, o3.new _ _⟩
theorem rPutText (h : H) (s u : List Nat) (hu : u.length < 100000) (hs : s.length ≤ 9000) : PushC P (.enter 44 [.str s, .str u] h) (SaysG h (.str (s ++ encN u.length ++ u))) := by
 have hu2 : u.length < M64:= by have : M64 = 18446744073709551616 := rfl; omega
 have w : wrapF .u64 (Int.ofNat u.length) = Int.ofNat u.length := u64_nat (by omega)
 have ad := fun h t x y => b_addS (a := s ++ encN u.length) (b := u) (by rw [List.length_append]; have := encN_len hu2; omega) h t x y
 refine pushC_of_codeW (fn := Tryz.f44) (c := bodyC Tryz.f44) Tryz.func44 rfl ?_
 show codeW P 44 12 none _ _ _ _ _
 refine codeW_root ?_
 repeat' (first | ((with_reducible refine st1 ?_); (conv => whnf); (with_reducible refine ⟨?_⟩)) | ((with_reducible refine retW_intro rfl ?_); (conv => arg 2; whnf)) | ((with_reducible first | refine iB ?_ ?_ | refine gWt ?_ ?_ | refine gWf ?_ ?_) <;> intro hb <;> (try simp only [hb])) | (simp only [B, F, reduceLT, reduceLeDiff, reduceEqDiff, reduceAdd, reduceMul, reduceSub, ↓reduceIte, eq_self, w]))
 refine ((rPutN _ u.length s hu2 (by omega)).call P).mono P ?_
 rintro v h1 ⟨rfl, o1⟩
 repeat' (first | ((with_reducible refine st1 ?_); (conv => whnf); (with_reducible refine ⟨?_⟩)) | ((with_reducible refine retW_intro rfl ?_); (conv => arg 2; whnf)) | ((with_reducible first | refine iB ?_ ?_ | refine gWt ?_ ?_ | refine gWf ?_ ?_) <;> intro hb <;> (try simp only [hb])) | (simp only [B, F, reduceLT, reduceLeDiff, reduceEqDiff, reduceAdd, reduceMul, reduceSub, ↓reduceIte, eq_self, ad]))
 exact ⟨rfl, o1⟩
def hexF : Nat → Nat → List Nat
 | _, 0 => []
 | n, d + 1 => hexF (n / 16) d ++ [hexD (n % 16)]
theorem hexF_P : ∀ (d n : Nat), n < 16 ^ d → 0 < d → hexF n d = hexP n d
 | 0, n, _, h => by omega
 | d + 1, n, hn, _ => by
  unfold hexF
  by_cases q : n < 16
  ·have e1 : n / 16 = 0:= by omega
   have e2 : n % 16 = n:= by omega
   have h0 : ∀ d, hexF 0 d = List.replicate d 48 := by
    intro d
    induction d with
    | zero => rfl
    | succ d ih => unfold hexF; rw [show 0 / 16 = 0 from rfl, ih, List.replicate_succ']; rfl
   unfold hexP
   rw [e1, e2, h0, hexL_lt q]
   simp
  ·have hd : 0 < d := by
    rcases Nat.eq_zero_or_pos d with rfl | h
    ·simp at hn; omega
    ·exact h
   rw [hexF_P d (n / 16) (by rw [Nat.pow_succ] at hn; omega) hd]
   unfold hexP
   rw [hexL_ge q, List.length_append, List.length_singleton, List.append_assoc]
   congr 2
   omega
structure RhI (h0 : H) (n d : Nat) (m : Nat) (ds : List Nat) (tm : T AV) (h : H) (u i : Nat) (suf : List Nat) : Prop where
 ds : ds = []
 nn : m = d - i
 ii : i ≤ d
 le : u < M64
 hs : hexF n d = hexF u (d - i) ++ suf
 ls : suf.length = i
 t0 : tm.get 0 = some (.int .u64 (.ofNat u))
 t1 : tm.get 1 = some (.int .i64 (.ofNat d))
 t5 : tm.get 5 = some (.str suf)
 t6 : tm.get 6 = some (.int .i64 (.ofNat i))
 oo : Og h0 h []
theorem dg16 {k : Nat} (hk : k < 16) : sliceA P 9 (.str [48, 49, 50, 51, 52, 53, 54, 55, 56, 57, 97, 98, 99, 100, 101, 102]) (some (.int .i64 (.ofNat k))) (some (.int .i64 (.ofNat (k + 1)))) none = some (.str [hexD k]) := by
 rcases (show k = 0 ∨ k = 1 ∨ k = 2 ∨ k = 3 ∨ k = 4 ∨ k = 5 ∨ k = 6 ∨ k = 7 ∨ k = 8 ∨ k = 9 ∨ k = 10 ∨ k = 11 ∨ k = 12 ∨ k = 13 ∨ k = 14 ∨ k = 15 by omega) with rfl | rfl | rfl | rfl | rfl | rfl | rfl | rfl | rfl | rfl | rfl | rfl | rfl | rfl | rfl | rfl <;> (simp only [sliceA, u9a]; rfl)
theorem rHexC (h0 : H) (n d : Nat) (hn : n < M64) (hd : d < 100) : PushC P (.enter 45 [.int .u64 (.ofNat n), .int .i64 (.ofNat d)] h0) (SaysG h0 (.str (hexF n d))) := by
 have e0 : bytesOf { data := #[] } = [] := rfl
 have e1 : bytesOf { data := #[48, 49, 50, 51, 52, 53, 54, 55, 56, 57, 97, 98, 99, 100, 101, 102] } = [48, 49, 50, 51, 52, 53, 54, 55, 56, 57, 97, 98, 99, 100, 101, 102] := rfl
 refine pushC_of_codeW (fn := Tryz.f45) (c := bodyC Tryz.f45) Tryz.func45 rfl ?_
 show codeW P 45 25 none _ _ _ _ _
 refine codeW_root ?_
 repeat' (first | ((with_reducible refine st1 ?_); (conv => whnf); (with_reducible refine ⟨?_⟩)) | ((with_reducible refine retW_intro rfl ?_); (conv => arg 2; whnf)) | ((with_reducible first | refine iB ?_ ?_ | refine gWt ?_ ?_ | refine gWf ?_ ?_) <;> intro hb <;> (try simp only [hb])) | (simp only [B, F, reduceLT, reduceLeDiff, reduceEqDiff, reduceAdd, reduceMul, reduceSub, ↓reduceIte, eq_self, e0]))
 refine st_loop (fun m ds tm h' => ∃ u i suf, RhI h0 n d m ds tm h' u i suf) d rfl ⟨n, 0, [], rfl, rfl, Nat.zero_le _, hn, by simp, rfl, by simp only [B, F, reduceLT, reduceLeDiff, reduceEqDiff, reduceAdd, reduceMul, reduceSub, ↓reduceIte, eq_self], by simp only [B, F, reduceLT, reduceLeDiff, reduceEqDiff, reduceAdd, reduceMul, reduceSub, ↓reduceIte, eq_self], by simp only [B, F, reduceLT, reduceLeDiff, reduceEqDiff, reduceAdd, reduceMul, reduceSub, ↓reduceIte, eq_self], by simp only [B, F, reduceLT, reduceLeDiff, reduceEqDiff, reduceAdd, reduceMul, reduceSub, ↓reduceIte, eq_self], Og.refl _ _⟩ (fun m ds tm h hI => ?_)
 obtain ⟨u, i, suf, rfl, rfl, hi, hu, hs, ls, t0, t1, t5, t6, oo⟩ := hI
 by_cases hid : i < d
 ·have d1 : decide (i < d) = true := decide_eq_true hid
  have w1 : wrapF .i64 (Int.ofNat (u % 16)) = Int.ofNat (u % 16) := by
   have := i64_add (a := u % 16) (b := 0) (by omega)
   simpa using this
  have w2 : wrapF .i64 (Int.ofNat (u % 16) + Int.ofNat 1) = Int.ofNat (u % 16 + 1) := i64_add (by omega)
  have w3 : wrapF .i64 (Int.ofNat i + Int.ofNat 1) = Int.ofNat (i + 1) := i64_add (by omega)
  have dg := dg16 (k := u % 16) (Nat.mod_lt _ (by omega))
  have ad := fun h t x y => b_addS (a := [hexD (u % 16)]) (b := suf) (by simp; omega) h t x y
  have qu := qu16 hu
  repeat' (first | ((with_reducible refine st1 ?_); (conv => whnf); (with_reducible refine ⟨?_⟩)) | ((with_reducible refine retW_intro rfl ?_); (conv => arg 2; whnf)) | ((with_reducible first | refine iB ?_ ?_ | refine gWt ?_ ?_ | refine gWf ?_ ?_) <;> intro hb <;> (try simp only [hb])) | (simp only [B, F, reduceLT, reduceLeDiff, reduceEqDiff, reduceAdd, reduceMul, reduceSub, ↓reduceIte, eq_self, t0, t1, t5, t6, d1, w1, w2, e1, rm16, qu, @ex_sl_lh, dg, ad, w3]))
  have hst : hexF u (d - i) = hexF (u / 16) (d - (i + 1)) ++ [hexD (u % 16)] := by
   rw [show d - i = d - (i + 1) + 1 by omega]
   rfl
  have hu' : u / 16 < M64 := Nat.lt_of_le_of_lt (Nat.div_le_self _ _) hu
  exact ⟨d - (i + 1), by omega, u / 16, i + 1, hexD (u % 16) :: suf, rfl, rfl, by omega, hu', by rw [hs, hst, List.append_assoc]; rfl, by rw [List.length_cons, ls], by simp only [B, F, reduceLT, reduceLeDiff, reduceEqDiff, reduceAdd, reduceMul, reduceSub, ↓reduceIte, eq_self], by simp only [B, F, reduceLT, reduceLeDiff, reduceEqDiff, reduceAdd, reduceMul, reduceSub, ↓reduceIte, eq_self, t1], by simp only [B, F, reduceLT, reduceLeDiff, reduceEqDiff, reduceAdd, reduceMul, reduceSub, ↓reduceIte, eq_self], by simp only [B, F, reduceLT, reduceLeDiff, reduceEqDiff, reduceAdd, reduceMul, reduceSub, ↓reduceIte, eq_self], oo⟩
 ·have d1 : decide (i < d) = false := decide_eq_false hid
  obtain rfl : i = d:= by omega
  rw [Nat.sub_self] at hs
  repeat' (first | ((with_reducible refine st1 ?_); (conv => whnf); (with_reducible refine ⟨?_⟩)) | ((with_reducible refine retW_intro rfl ?_); (conv => arg 2; whnf)) | ((with_reducible first | refine iB ?_ ?_ | refine gWt ?_ ?_ | refine gWf ?_ ?_) <;> intro hb <;> (try simp only [hb])) | (simp only [B, F, reduceLT, reduceLeDiff, reduceEqDiff, reduceAdd, reduceMul, reduceSub, ↓reduceIte, eq_self, t0, t1, t5, t6, d1]))
  exact ⟨by rw [hs]; rfl, oo⟩
abbrev Rw := Nat × Lst
def rwC (x : Rw) : List AV := [.int .u64 (.ofNat x.1), .int .u64 (.ofNat x.2.1), .str x.2.2]
def rwsC (L : List Rw) : List AV := L.flatMap rwC
abbrev Kp := List Nat × List Nat
def kpC (x : Kp) : List AV := [.str x.1, .str x.2]
def kpsC (L : List Kp) : List AV := L.flatMap kpC
def prs (x : Rw) : List Kp := (List.range (cntP (textP x.2.1 x.2.2))).map fun i => (keyP x.1 i, pieceP (textP x.2.1 x.2.2) i)
theorem u44a : P.underlying 44 = some (.slice 74):= by kernel_rfl
theorem u39a : P.underlying 49 = some (.slice 80):= by kernel_rfl
theorem i44 : infoOk P 74 2 = true:= by kernel_rfl
end
end Go.Proofs.YtllmfnedkhiomaaGreatDoor.S

namespace Go.Proofs.YtllmfnedkhiomaaGreatDoor.S
open Go Go.AX
noncomputable section
set_option maxRecDepth 100000
theorem cut_lh (s : List Nat) (l n : Nat) (hl : l ≤ n) (hn : n ≤ s.length) : sliceA P 9 (.str s) (some (.int .i64 (.ofNat l))) (some (.int .i64 (.ofNat n))) none = some (.str ((s.take n).drop l)) := by
 have hb : Nat.ble n s.length = true:= by rw [Nat.ble_eq]; exact hn
 have hc : Nat.ble l n = true:= by rw [Nat.ble_eq]; exact hl
 simp only [sliceA, u9a, sliceStr, bndO, bnd, lenL_eq, hb, hc]
theorem piece_cut (s : List Nat) (i : Nat) : (s.take (min (i * 96 + 96) s.length)).drop (i * 96) = pieceP s i := by
 unfold pieceP
 rw [List.take_drop]
 congr 1
 rcases Nat.le_total (i * 96 + 96) s.length with q | q
 ·rw [Nat.min_eq_left q]
 ·rw [Nat.min_eq_right q, List.take_of_length_le (Nat.le_refl _), List.take_of_length_le q]
structure RqI (h0 : H) (b c n : Nat) (r s : List Nat) (m : Nat) (ds : List Nat) (tm : T AV) (h : H) (i : Nat) (v : AV) : Prop where
 ds : ds = []
 nn : m = cntP s - i
 ii : i ≤ cntP s
 t1 : tm.get 1 = some (.ptr b 0)
 t3 : tm.get 3 = some (.str s)
 t4 : tm.get 4 = some v
 t5 : tm.get 5 = some (.int .i64 (.ofNat i))
 gr : Grows 2 (h0.nx + 1) h v i (kpsC ((prs (c, n, r)).take i))
 nx : h0.nx + 1 ≤ h.nx
 oo : Og h0 h []
 c0 : cellAt h b 0 = some (.int .u64 (.ofNat c))
theorem rowPairs (h0 : H) (c n : Nat) (r : List Nat) (hc : c < 281474976710656) (hn : n < M64) (hr : r.length < 5000) :
  PushC P (.enter 28 [.agg [.int .u64 (.ofNat c), .int .u64 (.ofNat n), .str r]] h0) fun v h' => Og h0 h' [] ∧ Grows 2 h0.nx h' v (prs (c, n, r)).length (kpsC (prs (c, n, r))) := by
 have e0 : bytesOf { data := #[] } = [] := rfl
 have e1 : bytesOf { data := #[115] } = [115] := rfl
 have e2 : bytesOf { data := #[45] } = [45] := rfl
 obtain ⟨s, hs⟩ : ∃ s, s = textP n r := ⟨_, rfl⟩
 have hr2 : r.length < M64:= by have : M64 = 18446744073709551616 := rfl; omega
 have hsl : s.length ≤ 5020:= by rw [hs]; unfold textP; have := encN_len hn; have := encN_len hr2; simp; omega
 have hlp : (prs (c, n, r)).length = cntP s:= by unfold prs; rw [hs]; simp
 have hcnt : cntP s = (s.length + 95) / 96 := rfl
 obtain ⟨h1, h1e⟩ : ∃ h1, h1 = h0.newCells 80 [.int .u64 (.ofNat c), .int .u64 (.ofNat n), .str r] := ⟨_, rfl⟩
 have o1 : Og h0 h1 []:= by rw [h1e]; exact (Og.refl _ _).new _ _
 have x1 : h1.nx = h0.nx + 1:= by rw [h1e]; rfl
 have z0 : cellAt h1 h0.nx 0 = some (.int .u64 (.ofNat c)):= by rw [h1e, cellAt_new, if_pos rfl]; rfl
 have z1 : cellAt h1 h0.nx 1 = some (.int .u64 (.ofNat n)):= by rw [h1e, cellAt_new, if_pos rfl]; rfl
 have z2 : cellAt h1 h0.nx 2 = some (.str r):= by rw [h1e, cellAt_new, if_pos rfl]; rfl
 refine pushC_of_codeW (fn := Tryz.f28) (c := bodyC Tryz.f28) Tryz.func28 rfl ?_
 show codeW P 28 43 none _ _ _ _ _
 refine codeW_root ?_
 repeat' (first | ((with_reducible refine st1 ?_); (conv => whnf); (with_reducible refine ⟨?_⟩)) | ((with_reducible refine st_dp ord28_0 ?_ rfl rfl ?_); exact rfl; (conv => arg 4; whnf); (conv => arg 3; whnf)) | ((with_reducible refine st_dp ord28_1 ?_ rfl rfl ?_); exact rfl; (conv => arg 4; whnf); (conv => arg 3; whnf)) | ((with_reducible refine retW_intro rfl ?_); (conv => arg 2; whnf)) | ((with_reducible first | refine iB ?_ ?_ | refine gWt ?_ ?_ | refine gWf ?_ ?_ | refine gXt ?_ ?_ | refine gXf ?_ ?_) <;> intro hb <;> (try simp only [hb])) | ((with_reducible show drawP _ _ _ _ _ _ _ _ _); first | ((with_reducible apply kP_rd); exact rfl; exact rfl) | ((with_reducible apply kP_rg); exact rfl; exact rfl; exact rfl) | ((with_reducible apply kP_cv); exact rfl; exact rfl; kernel_rfl) | ((with_reducible apply kP_al); exact rfl; exact rfl; exact rfl) | ((with_reducible apply kP_fl); exact rfl; exact rfl; exact rfl) | ((with_reducible apply kP_ex); exact rfl; exact rfl; kernel_rfl; exact rfl) | ((with_reducible apply kP_eg); exact rfl; exact rfl; kernel_rfl; exact rfl) | ((with_reducible refine kP_nl ?_ ?_))) | ((with_reducible show eOk _ _ _ _ _ _); first | (exact eok_nil) | (refine ke_rd ?_ ?_ ?_; exact rfl) | (apply ke_rg; exact rfl; exact rfl) | (refine ke_cv ?_ ?_ ?_ ?_; exact rfl; kernel_rfl) | (apply ke_fl; exact rfl) | (apply ke_al; exact rfl; exact rfl)) | ((with_reducible refine freshIs_new ?_); kernel_rfl) | (simp only [B, xB, F, reduceLT, reduceLeDiff, reduceEqDiff, reduceAdd, reduceMul, reduceSub, ↓reduceIte, eq_self, ← h1e, z0, z1, z2, e0]))
 refine ((rPutN h1 n [] hn (by simp)).call P).mono P ?_
 rintro v h2 ⟨rfl, o2⟩
 have y2 := kc z2 o2 (by omega) (by simp)
 have y0 := kc z0 o2 (by omega) (by simp)
 repeat' (first | ((with_reducible refine st1 ?_); (conv => whnf); (with_reducible refine ⟨?_⟩)) | ((with_reducible refine st_dp ord28_0 ?_ rfl rfl ?_); exact rfl; (conv => arg 4; whnf); (conv => arg 3; whnf)) | ((with_reducible refine st_dp ord28_1 ?_ rfl rfl ?_); exact rfl; (conv => arg 4; whnf); (conv => arg 3; whnf)) | ((with_reducible refine retW_intro rfl ?_); (conv => arg 2; whnf)) | ((with_reducible first | refine iB ?_ ?_ | refine gWt ?_ ?_ | refine gWf ?_ ?_ | refine gXt ?_ ?_ | refine gXf ?_ ?_) <;> intro hb <;> (try simp only [hb])) | ((with_reducible show drawP _ _ _ _ _ _ _ _ _); first | ((with_reducible apply kP_rd); exact rfl; exact rfl) | ((with_reducible apply kP_rg); exact rfl; exact rfl; exact rfl) | ((with_reducible apply kP_cv); exact rfl; exact rfl; kernel_rfl) | ((with_reducible apply kP_al); exact rfl; exact rfl; exact rfl) | ((with_reducible apply kP_fl); exact rfl; exact rfl; exact rfl) | ((with_reducible apply kP_ex); exact rfl; exact rfl; kernel_rfl; exact rfl) | ((with_reducible apply kP_eg); exact rfl; exact rfl; kernel_rfl; exact rfl) | ((with_reducible refine kP_nl ?_ ?_))) | ((with_reducible show eOk _ _ _ _ _ _); first | (exact eok_nil) | (refine ke_rd ?_ ?_ ?_; exact rfl) | (apply ke_rg; exact rfl; exact rfl) | (refine ke_cv ?_ ?_ ?_ ?_; exact rfl; kernel_rfl) | (apply ke_fl; exact rfl) | (apply ke_al; exact rfl; exact rfl)) | ((with_reducible refine freshIs_new ?_); kernel_rfl) | (simp only [B, xB, F, reduceLT, reduceLeDiff, reduceEqDiff, reduceAdd, reduceMul, reduceSub, ↓reduceIte, eq_self, z0, z1, z2, y2, e0]))
 refine ((rPutText h2 ([] ++ encN n) r (by omega) (by have := encN_len hn; simp; omega)).call P).mono P ?_
 rintro v h3 ⟨rfl, o3⟩
 have hs2 : [] ++ encN n ++ encN r.length ++ r = s:= by rw [hs]; rfl
 rw [hs2]
 have x2 := o2.1.1
 have w0 := kc y0 o3 (by omega) (by simp)
 have w2 := kc y2 o3 (by omega) (by simp)
 repeat' (first | ((with_reducible refine st1 ?_); (conv => whnf); (with_reducible refine ⟨?_⟩)) | ((with_reducible refine st_dp ord28_0 ?_ rfl rfl ?_); exact rfl; (conv => arg 4; whnf); (conv => arg 3; whnf)) | ((with_reducible refine st_dp ord28_1 ?_ rfl rfl ?_); exact rfl; (conv => arg 4; whnf); (conv => arg 3; whnf)) | ((with_reducible refine retW_intro rfl ?_); (conv => arg 2; whnf)) | ((with_reducible first | refine iB ?_ ?_ | refine gWt ?_ ?_ | refine gWf ?_ ?_ | refine gXt ?_ ?_ | refine gXf ?_ ?_) <;> intro hb <;> (try simp only [hb])) | ((with_reducible show drawP _ _ _ _ _ _ _ _ _); first | ((with_reducible apply kP_rd); exact rfl; exact rfl) | ((with_reducible apply kP_rg); exact rfl; exact rfl; exact rfl) | ((with_reducible apply kP_cv); exact rfl; exact rfl; kernel_rfl) | ((with_reducible apply kP_al); exact rfl; exact rfl; exact rfl) | ((with_reducible apply kP_fl); exact rfl; exact rfl; exact rfl) | ((with_reducible apply kP_ex); exact rfl; exact rfl; kernel_rfl; exact rfl) | ((with_reducible apply kP_eg); exact rfl; exact rfl; kernel_rfl; exact rfl) | ((with_reducible refine kP_nl ?_ ?_))) | ((with_reducible show eOk _ _ _ _ _ _); first | (exact eok_nil) | (refine ke_rd ?_ ?_ ?_; exact rfl) | (apply ke_rg; exact rfl; exact rfl) | (refine ke_cv ?_ ?_ ?_ ?_; exact rfl; kernel_rfl) | (apply ke_fl; exact rfl) | (apply ke_al; exact rfl; exact rfl)) | ((with_reducible refine freshIs_new ?_); kernel_rfl) | (simp only [B, xB, F, reduceLT, reduceLeDiff, reduceEqDiff, reduceAdd, reduceMul, reduceSub, ↓reduceIte, eq_self, z0, z1, z2, y2, w2, e0]))
 refine st_loop (fun m ds tm h => ∃ i v, RqI h0 h0.nx c n r s m ds tm h i v) (cntP s) rfl ⟨0, .nilslice, rfl, rfl, Nat.zero_le _, by simp only [B, xB, F, reduceLT, reduceLeDiff, reduceEqDiff, reduceAdd, reduceMul, reduceSub, ↓reduceIte, eq_self], by simp only [B, xB, F, reduceLT, reduceLeDiff, reduceEqDiff, reduceAdd, reduceMul, reduceSub, ↓reduceIte, eq_self], by simp only [B, xB, F, reduceLT, reduceLeDiff, reduceEqDiff, reduceAdd, reduceMul, reduceSub, ↓reduceIte, eq_self], by simp only [B, xB, F, reduceLT, reduceLeDiff, reduceEqDiff, reduceAdd, reduceMul, reduceSub, ↓reduceIte, eq_self], Grows.none, by have := o3.1.1; omega, (o1.t o2).t o3, w0⟩ (fun m ds tm h hI => ?_)
 clear w0 w2 y0 y2 z0 z1 z2
 obtain ⟨i, v, rfl, rfl, ii, t1, t3, t4, t5, gr, nx, oo, c0⟩ := hI
 have gro := gr.one
 by_cases hi : i * 96 < s.length
 ·have d1 : decide (i * 96 < s.length) = true := decide_eq_true (by omega)
  have w1 : wrapF .i64 (Int.ofNat 96 * Int.ofNat i) = Int.ofNat (i * 96) := by
   have := i64_add (a := 96 * i) (b := 0) (by omega)
   have e : (Int.ofNat 96 * Int.ofNat i) = Int.ofNat (96 * i) := rfl
   rw [e, Nat.mul_comm i 96]
   simpa using this
  have w2 : wrapF .i64 (Int.ofNat (i * 96) + Int.ofNat 96) = Int.ofNat (i * 96 + 96) := i64_add (by omega)
  have w3 : wrapF .u64 (Int.ofNat i) = Int.ofNat i := u64_nat (by omega)
  have w4 : wrapF .i64 (Int.ofNat i + Int.ofNat 1) = Int.ofNat (i + 1) := i64_add (by omega)
  have mn : (if Int.ofNat s.length < Int.ofNat (i * 96 + 96) then Int.ofNat s.length else Int.ofNat (i * 96 + 96)) = Int.ofNat (min (i * 96 + 96) s.length) := by
   have : ∀ a b : Nat, (if ((b : Nat) : Int) < ((a : Nat) : Int) then ((b : Nat) : Int) else ((a : Nat) : Int)) = ((min a b : Nat) : Int) := fun a b => by split <;> omega
   exact this _ _
  have cut := cut_lh s (i * 96) (min (i * 96 + 96) s.length) (by omega) (by omega)
  rw [piece_cut] at cut
  have hM : M64 = 18446744073709551616 := rfl
  have hx1 : hexF c 12 = hexP c 12 := hexF_P 12 c (by simpa using hc) (by omega)
  have hx2 : hexF i 2 = hexP i 2 := hexF_P 2 i (by omega) (by omega)
  have hl12 : (hexL c).length ≤ 12 := hexL_len 11 c (by simpa using hc)
  have hl2 : (hexL i).length ≤ 2 := hexL_len 1 i (by omega)
  have hp12 : (hexP c 12).length = 12 := hexP_len hl12
  have hp2 : (hexP i 2).length = 2 := hexP_len hl2
  have ad1 : ∀ h t x y, binR P h .add t x y (.str [115]) (.str (hexP c 12)) = .val (.str (115 :: hexP c 12)) h := fun h t x y => b_addS (a := [115]) (by simp; omega) h t x y
  have ad2 : ∀ h t x y, binR P h .add t x y (.str (115 :: hexP c 12)) (.str [45]) = .val (.str (115 :: (hexP c 12 ++ [45]))) h := fun h t x y => b_addS (a := 115 :: hexP c 12) (by simp; omega) h t x y
  have ad3 : ∀ h t x y, binR P h .add t x y (.str (115 :: (hexP c 12 ++ [45]))) (.str (hexP i 2)) = .val (.str (keyP c i)) h := fun h t x y => b_addS (a := 115 :: (hexP c 12 ++ [45])) (by simp; omega) h t x y
  repeat' (first | ((with_reducible refine st1 ?_); (conv => whnf); (with_reducible refine ⟨?_⟩)) | ((with_reducible refine st_dp ord28_0 ?_ rfl rfl ?_); exact rfl; (conv => arg 4; whnf); (conv => arg 3; whnf)) | ((with_reducible refine st_dp ord28_1 ?_ rfl rfl ?_); exact rfl; (conv => arg 4; whnf); (conv => arg 3; whnf)) | ((with_reducible refine retW_intro rfl ?_); (conv => arg 2; whnf)) | ((with_reducible first | refine iB ?_ ?_ | refine gWt ?_ ?_ | refine gWf ?_ ?_ | refine gXt ?_ ?_ | refine gXf ?_ ?_) <;> intro hb <;> (try simp only [hb])) | ((with_reducible show drawP _ _ _ _ _ _ _ _ _); first | ((with_reducible apply kP_rd); exact rfl; exact rfl) | ((with_reducible apply kP_rg); exact rfl; exact rfl; exact rfl) | ((with_reducible apply kP_cv); exact rfl; exact rfl; kernel_rfl) | ((with_reducible apply kP_al); exact rfl; exact rfl; exact rfl) | ((with_reducible apply kP_fl); exact rfl; exact rfl; exact rfl) | ((with_reducible apply kP_ex); exact rfl; exact rfl; kernel_rfl; exact rfl) | ((with_reducible apply kP_eg); exact rfl; exact rfl; kernel_rfl; exact rfl) | ((with_reducible refine kP_nl ?_ ?_))) | ((with_reducible show eOk _ _ _ _ _ _); first | (exact eok_nil) | (refine ke_rd ?_ ?_ ?_; exact rfl) | (apply ke_rg; exact rfl; exact rfl) | (refine ke_cv ?_ ?_ ?_ ?_; exact rfl; kernel_rfl) | (apply ke_fl; exact rfl) | (apply ke_al; exact rfl; exact rfl)) | ((with_reducible refine freshIs_new ?_); kernel_rfl) | (simp only [B, xB, F, reduceLT, reduceLeDiff, reduceEqDiff, reduceAdd, reduceMul, reduceSub, ↓reduceIte, eq_self, t1, t3, t4, t5, c0, gro, e1, e2, w1, w2, w3, mn, d1, @ex_sl_lh, cut]))
  refine ((rHexC h c 12 (by omega) (by omega)).call P).mono P ?_
  rintro v4 h4 ⟨rfl, o4⟩
  rw [hx1]
  have hb0 : h0.nx < h.nx:= by omega
  have c4 := kc c0 o4 hb0 (by simp)
  repeat' (first | ((with_reducible refine st1 ?_); (conv => whnf); (with_reducible refine ⟨?_⟩)) | ((with_reducible refine st_dp ord28_0 ?_ rfl rfl ?_); exact rfl; (conv => arg 4; whnf); (conv => arg 3; whnf)) | ((with_reducible refine st_dp ord28_1 ?_ rfl rfl ?_); exact rfl; (conv => arg 4; whnf); (conv => arg 3; whnf)) | ((with_reducible refine retW_intro rfl ?_); (conv => arg 2; whnf)) | ((with_reducible first | refine iB ?_ ?_ | refine gWt ?_ ?_ | refine gWf ?_ ?_ | refine gXt ?_ ?_ | refine gXf ?_ ?_) <;> intro hb <;> (try simp only [hb])) | ((with_reducible show drawP _ _ _ _ _ _ _ _ _); first | ((with_reducible apply kP_rd); exact rfl; exact rfl) | ((with_reducible apply kP_rg); exact rfl; exact rfl; exact rfl) | ((with_reducible apply kP_cv); exact rfl; exact rfl; kernel_rfl) | ((with_reducible apply kP_al); exact rfl; exact rfl; exact rfl) | ((with_reducible apply kP_fl); exact rfl; exact rfl; exact rfl) | ((with_reducible apply kP_ex); exact rfl; exact rfl; kernel_rfl; exact rfl) | ((with_reducible apply kP_eg); exact rfl; exact rfl; kernel_rfl; exact rfl) | ((with_reducible refine kP_nl ?_ ?_))) | ((with_reducible show eOk _ _ _ _ _ _); first | (exact eok_nil) | (refine ke_rd ?_ ?_ ?_; exact rfl) | (apply ke_rg; exact rfl; exact rfl) | (refine ke_cv ?_ ?_ ?_ ?_; exact rfl; kernel_rfl) | (apply ke_fl; exact rfl) | (apply ke_al; exact rfl; exact rfl)) | ((with_reducible refine freshIs_new ?_); kernel_rfl) | (simp only [B, xB, F, reduceLT, reduceLeDiff, reduceEqDiff, reduceAdd, reduceMul, reduceSub, ↓reduceIte, eq_self, t1, t3, t4, t5, c0, c4, gro, e1, e2, w1, w2, w3, mn, d1, @ex_sl_lh, cut, ad1, ad2]))
  refine ((rHexC h4 i 2 (by omega) (by omega)).call P).mono P ?_
  rintro v5 h5 ⟨rfl, o5⟩
  rw [hx2]
  have c5 := kc c4 o5 (by have := o4.1.1; omega) (by simp)
  obtain ⟨h6, h6e⟩ : ∃ h6, h6 = h5.newCells 74 [.str (keyP c i), .str (pieceP s i)] := ⟨_, rfl⟩
  have o6 : Og h5 h6 []:= by rw [h6e]; exact (Og.refl _ _).new _ _
  have x6 : h6.nx = h5.nx + 1:= by rw [h6e]; rfl
  have hrow : h6.row h5.nx 0 2 = some [.str (keyP c i), .str (pieceP s i)] := row_ok (o := 0) (cs := [.str (keyP c i), .str (pieceP s i)]) (fun j hj => by rw [h6e, cellAt_new, Nat.zero_add, if_pos rfl]) (by simp)
  have o46 := (o4.t o5).t o6
  have g6 : Grows 2 (h0.nx + 1) h6 v _ _ := gr.of_get o46.1.1 (fun c e => o46.1.2 c (gr.base e).2 (by simp))
  repeat' (first | ((with_reducible refine st1 ?_); (conv => whnf); (with_reducible refine ⟨?_⟩)) | ((with_reducible refine st_dp ord28_0 ?_ rfl rfl ?_); exact rfl; (conv => arg 4; whnf); (conv => arg 3; whnf)) | ((with_reducible refine st_dp ord28_1 ?_ rfl rfl ?_); exact rfl; (conv => arg 4; whnf); (conv => arg 3; whnf)) | ((with_reducible refine retW_intro rfl ?_); (conv => arg 2; whnf)) | ((with_reducible first | refine iB ?_ ?_ | refine gWt ?_ ?_ | refine gWf ?_ ?_ | refine gXt ?_ ?_ | refine gXf ?_ ?_) <;> intro hb <;> (try simp only [hb])) | ((with_reducible show drawP _ _ _ _ _ _ _ _ _); first | ((with_reducible apply kP_rd); exact rfl; exact rfl) | ((with_reducible apply kP_rg); exact rfl; exact rfl; exact rfl) | ((with_reducible apply kP_cv); exact rfl; exact rfl; kernel_rfl) | ((with_reducible apply kP_al); exact rfl; exact rfl; exact rfl) | ((with_reducible apply kP_fl); exact rfl; exact rfl; exact rfl) | ((with_reducible apply kP_ex); exact rfl; exact rfl; kernel_rfl; exact rfl) | ((with_reducible apply kP_eg); exact rfl; exact rfl; kernel_rfl; exact rfl) | ((with_reducible refine kP_nl ?_ ?_))) | ((with_reducible show eOk _ _ _ _ _ _); first | (exact eok_nil) | (refine ke_rd ?_ ?_ ?_; exact rfl) | (apply ke_rg; exact rfl; exact rfl) | (refine ke_cv ?_ ?_ ?_ ?_; exact rfl; kernel_rfl) | (apply ke_fl; exact rfl) | (apply ke_al; exact rfl; exact rfl)) | ((with_reducible refine freshIs_new ?_); kernel_rfl) | (simp only [B, xB, F, reduceLT, reduceLeDiff, reduceEqDiff, reduceAdd, reduceMul, reduceSub, ↓reduceIte, eq_self, t1, t3, t4, t5, c0, c4, c5, gro, e1, e2, w1, w2, w3, mn, d1, @ex_sl_lh, cut, ad1, ad2, ad3, ← h6e, hrow]))
  have x46 := o46.1.1
  refine exW_growsG (m := 1) (new := [.str (keyP c i), .str (pieceP s i)]) g6 (by omega) (by omega) (by omega) rfl (by omega) (fun v7 h7 g7 x7 old7 blk7 gg7 => ?_)
  have g7o := g7.one
  have hbv : ∀ c, c < h0.nx + 1 → blkOf v ≠ some c := fun c hc e => by have := (gr.base e).1; omega
  have o07 : Og h0 h7 [] := ⟨⟨by have := oo.1.1; omega, fun c hc _ => by rw [old7 c (by omega) (hbv c (by omega)), o46.1.2 c (by omega) (by simp), oo.1.2 c hc (by simp)]⟩, by rw [gg7, o46.2, oo.2]⟩
  have c7 : cellAt h7 h0.nx 0 = some (.int .u64 (.ofNat c)):= by rw [cellAt_of_get (old7 _ (by omega) (hbv _ (by omega)))]; exact kc c0 o46 hb0 (by simp)
  have htk : (prs (c, n, r)).take (i + 1) = (prs (c, n, r)).take i ++ [(keyP c i, pieceP s i)] := by
   have hg : (prs (c, n, r))[i]? = some (keyP c i, pieceP s i) := by
    unfold prs
    rw [List.getElem?_map, List.getElem?_range (by rw [← hs]; omega), ← hs]
    rfl
   rw [List.take_add_one, hg]
   rfl
  have hkc : kpsC ((prs (c, n, r)).take (i + 1)) = kpsC ((prs (c, n, r)).take i) ++ [.str (keyP c i), .str (pieceP s i)] := by
   rw [htk]
   unfold kpsC
   rw [List.flatMap_append]; rfl
  repeat' (first | ((with_reducible refine st1 ?_); (conv => whnf); (with_reducible refine ⟨?_⟩)) | ((with_reducible refine st_dp ord28_0 ?_ rfl rfl ?_); exact rfl; (conv => arg 4; whnf); (conv => arg 3; whnf)) | ((with_reducible refine st_dp ord28_1 ?_ rfl rfl ?_); exact rfl; (conv => arg 4; whnf); (conv => arg 3; whnf)) | ((with_reducible refine retW_intro rfl ?_); (conv => arg 2; whnf)) | ((with_reducible first | refine iB ?_ ?_ | refine gWt ?_ ?_ | refine gWf ?_ ?_ | refine gXt ?_ ?_ | refine gXf ?_ ?_) <;> intro hb <;> (try simp only [hb])) | ((with_reducible show drawP _ _ _ _ _ _ _ _ _); first | ((with_reducible apply kP_rd); exact rfl; exact rfl) | ((with_reducible apply kP_rg); exact rfl; exact rfl; exact rfl) | ((with_reducible apply kP_cv); exact rfl; exact rfl; kernel_rfl) | ((with_reducible apply kP_al); exact rfl; exact rfl; exact rfl) | ((with_reducible apply kP_fl); exact rfl; exact rfl; exact rfl) | ((with_reducible apply kP_ex); exact rfl; exact rfl; kernel_rfl; exact rfl) | ((with_reducible apply kP_eg); exact rfl; exact rfl; kernel_rfl; exact rfl) | ((with_reducible refine kP_nl ?_ ?_))) | ((with_reducible show eOk _ _ _ _ _ _); first | (exact eok_nil) | (refine ke_rd ?_ ?_ ?_; exact rfl) | (apply ke_rg; exact rfl; exact rfl) | (refine ke_cv ?_ ?_ ?_ ?_; exact rfl; kernel_rfl) | (apply ke_fl; exact rfl) | (apply ke_al; exact rfl; exact rfl)) | ((with_reducible refine freshIs_new ?_); kernel_rfl) | (simp only [B, xB, F, reduceLT, reduceLeDiff, reduceEqDiff, reduceAdd, reduceMul, reduceSub, ↓reduceIte, eq_self, t1, t3, t4, t5, g7o, w4]))
  exact ⟨cntP s - (i + 1), by omega, i + 1, v7, rfl, rfl, by omega, by simp only [B, xB, F, reduceLT, reduceLeDiff, reduceEqDiff, reduceAdd, reduceMul, reduceSub, ↓reduceIte, eq_self, t1], by simp only [B, xB, F, reduceLT, reduceLeDiff, reduceEqDiff, reduceAdd, reduceMul, reduceSub, ↓reduceIte, eq_self, t3], by simp only [B, xB, F, reduceLT, reduceLeDiff, reduceEqDiff, reduceAdd, reduceMul, reduceSub, ↓reduceIte, eq_self], by simp only [B, xB, F, reduceLT, reduceLeDiff, reduceEqDiff, reduceAdd, reduceMul, reduceSub, ↓reduceIte, eq_self], by rw [hkc]; exact g7, by omega, o07, c7⟩
 ·have d1 : decide (i * 96 < s.length) = false := decide_eq_false hi
  have w1 : wrapF .i64 (Int.ofNat 96 * Int.ofNat i) = Int.ofNat (i * 96) := by
   have := i64_add (a := 96 * i) (b := 0) (by omega)
   have e : (Int.ofNat 96 * Int.ofNat i) = Int.ofNat (96 * i) := rfl
   rw [e, Nat.mul_comm i 96]
   simpa using this
  obtain rfl : i = cntP s:= by omega
  rw [← hlp, List.take_length] at gr
  repeat' (first | ((with_reducible refine st1 ?_); (conv => whnf); (with_reducible refine ⟨?_⟩)) | ((with_reducible refine st_dp ord28_0 ?_ rfl rfl ?_); exact rfl; (conv => arg 4; whnf); (conv => arg 3; whnf)) | ((with_reducible refine st_dp ord28_1 ?_ rfl rfl ?_); exact rfl; (conv => arg 4; whnf); (conv => arg 3; whnf)) | ((with_reducible refine retW_intro rfl ?_); (conv => arg 2; whnf)) | ((with_reducible first | refine iB ?_ ?_ | refine gWt ?_ ?_ | refine gWf ?_ ?_ | refine gXt ?_ ?_ | refine gXf ?_ ?_) <;> intro hb <;> (try simp only [hb])) | ((with_reducible show drawP _ _ _ _ _ _ _ _ _); first | ((with_reducible apply kP_rd); exact rfl; exact rfl) | ((with_reducible apply kP_rg); exact rfl; exact rfl; exact rfl) | ((with_reducible apply kP_cv); exact rfl; exact rfl; kernel_rfl) | ((with_reducible apply kP_al); exact rfl; exact rfl; exact rfl) | ((with_reducible apply kP_fl); exact rfl; exact rfl; exact rfl) | ((with_reducible apply kP_ex); exact rfl; exact rfl; kernel_rfl; exact rfl) | ((with_reducible apply kP_eg); exact rfl; exact rfl; kernel_rfl; exact rfl) | ((with_reducible refine kP_nl ?_ ?_))) | ((with_reducible show eOk _ _ _ _ _ _); first | (exact eok_nil) | (refine ke_rd ?_ ?_ ?_; exact rfl) | (apply ke_rg; exact rfl; exact rfl) | (refine ke_cv ?_ ?_ ?_ ?_; exact rfl; kernel_rfl) | (apply ke_fl; exact rfl) | (apply ke_al; exact rfl; exact rfl)) | ((with_reducible refine freshIs_new ?_); kernel_rfl) | (simp only [B, xB, F, reduceLT, reduceLeDiff, reduceEqDiff, reduceAdd, reduceMul, reduceSub, ↓reduceIte, eq_self, t1, t3, t4, t5, d1, w1, gro]))
  exact ⟨oo, gr.wk (by omega)⟩
end
end Go.Proofs.YtllmfnedkhiomaaGreatDoor.S

namespace Go.Proofs.YtllmfnedkhiomaaGreatDoor.S
open Go Go.AX
noncomputable section
set_option maxRecDepth 100000
structure RfAt (h : H) (b : Nat) (L : List Rw) (v : AV) : Prop where
 lt : b < h.nx
 c0 : cellAt h b 0 = some v
 wr : wrAt h b = true
 gr : Grows 3 (b + 1) h v L.length (rwsC L)
theorem RfAt.keep {h h' : H} {b : Nat} {L : List Rw} {v : AV} (k : RfAt h b L v) {S : List Nat} (o : Og h h' S) (hS : ∀ c, c ∈ S → c < b ∨ h.nx ≤ c) : RfAt h' b L v :=
 have hb : b ∉ S := fun q => by have := k.lt; rcases hS b q with h | h <;> omega
 ⟨Nat.lt_of_lt_of_le k.lt o.1.1, kc k.c0 o k.lt hb, kw k.wr o k.lt hb, k.gr.of_get o.1.1 fun c e => o.1.2 c (k.gr.base e).2 fun q => by have := k.gr.base e; rcases hS c q with h | h <;> omega⟩
theorem rws_at {h : H} {bv base : Nat} {cap : Cap} {L : List Rw} (g : Grows 3 base h (.slice bv 0 L.length cap) L.length (rwsC L)) {i : Nat} {x : Rw} (hx : L[i]? = some x) :
  cellAt h bv (i * 3) = some (.int .u64 (.ofNat x.1)) ∧ cellAt h bv (i * 3 + 1) = some (.int .u64 (.ofNat x.2.1)) ∧ cellAt h bv (i * 3 + 2) = some (.str x.2.2) := by
 have key : ∀ (L : List Rw) (i : Nat) (x : Rw), L[i]? = some x → (rwsC L)[i * 3]? = some (.int .u64 (.ofNat x.1)) ∧ (rwsC L)[i * 3 + 1]? = some (.int .u64 (.ofNat x.2.1)) ∧ (rwsC L)[i * 3 + 2]? = some (.str x.2.2) := by
  intro L
  induction L with
  | nil => intro i x h; simp at h
  | cons a L ih =>
   intro i x h
   cases i with
   | zero => simp at h; subst h; exact ⟨rfl, rfl, rfl⟩
   | succ i =>
    have := ih i x (by simpa using h)
    have e : ∀ k, (rwsC (a :: L))[(i + 1) * 3 + k]? = (rwsC L)[i * 3 + k]? := fun k => by
     unfold rwsC
     rw [List.flatMap_cons, List.getElem?_append_right (by simp [rwC]; omega)]
     congr 1; simp [rwC]; omega
    exact ⟨by have := e 0; simp only [Nat.add_zero] at this; rw [this]; exact (ih i x (by simpa using h)).1, by rw [e 1]; exact this.2.1, by rw [e 2]; exact this.2.2⟩
 obtain ⟨a, b, c⟩ := key L i x hx
 exact ⟨by rw [g.at_]; exact a, by rw [g.at_]; exact b, by rw [g.at_]; exact c⟩
end
end Go.Proofs.YtllmfnedkhiomaaGreatDoor.S

namespace Go.Proofs.YtllmfnedkhiomaaGreatDoor.S
open Go Go.AX
noncomputable section
set_option maxRecDepth 100000
theorem kps_app (A B : List Kp) : kpsC (A ++ B) = kpsC A ++ kpsC B:= by unfold kpsC; rw [List.flatMap_append]
theorem kps_at {h : H} {bv base : Nat} {cap : Cap} {L : List Kp} (g : Grows 2 base h (.slice bv 0 L.length cap) L.length (kpsC L)) {i : Nat} {x : Kp} (hx : L[i]? = some x) :
  cellAt h bv (i * 2) = some (.str x.1) ∧ cellAt h bv (i * 2 + 1) = some (.str x.2) := by
 have key : ∀ (L : List Kp) (i : Nat) (x : Kp), L[i]? = some x → (kpsC L)[i * 2]? = some (.str x.1) ∧ (kpsC L)[i * 2 + 1]? = some (.str x.2) := by
  intro L
  induction L with
  | nil => intro i x h; simp at h
  | cons a L ih =>
   intro i x h
   cases i with
   | zero => simp at h; subst h; exact ⟨rfl, rfl⟩
   | succ i =>
    have := ih i x (by simpa using h)
    have e : ∀ k, (kpsC (a :: L))[(i + 1) * 2 + k]? = (kpsC L)[i * 2 + k]? := fun k => by
     unfold kpsC
     rw [List.flatMap_cons, List.getElem?_append_right (by simp [kpC]; omega)]
     congr 1; simp [kpC]; omega
    exact ⟨by have := e 0; simp only [Nat.add_zero] at this; rw [this]; exact (ih i x (by simpa using h)).1, by rw [e 1]; exact this.2⟩
 obtain ⟨a, b⟩ := key L i x hx
 exact ⟨by rw [g.at_]; exact a, by rw [g.at_]; exact b⟩
structure OgV (h h' : H) (b : Nat) (v : AV) : Prop where
 nx : h.nx ≤ h'.nx
 old : ∀ c, c < h.nx → c ≠ b → blkOf v ≠ some c → h'.t.get c = h.t.get c
 g : h'.g = h.g
theorem OgV.t {h h1 h' : H} {b : Nat} {v : AV} (o : Og h h1 []) (w : OgV h1 h' b v) : OgV h h' b v := ⟨Nat.le_trans o.1.1 w.nx, fun c hc h1 h2 => by rw [w.old c (Nat.lt_of_lt_of_le hc o.1.1) h1 h2, o.1.2 c hc (by simp)], w.g.trans o.2⟩
theorem OgV.e {h h1 h' : H} {b : Nat} {v : AV} (w : OgV h h1 b v) (o : Og h1 h' []) : OgV h h' b v := ⟨Nat.le_trans w.nx o.1.1, fun c hc q1 q2 => by rw [o.1.2 c (Nat.lt_of_lt_of_le hc w.nx) (by simp), w.old c hc q1 q2], o.2.trans w.g⟩
end
end Go.Proofs.YtllmfnedkhiomaaGreatDoor.S

namespace Go.Proofs.YtllmfnedkhiomaaGreatDoor.S
open Go Go.AX
noncomputable section
set_option maxRecDepth 100000
def allP (L : List Rw) : List Kp := L.flatMap prs
def OkRw (y : Rw) : Prop := y.1 < 281474976710656 ∧ y.2.1 < M64 ∧ y.2.2.length ≤ 4000
theorem prs_len {y : Rw} (h : OkRw y) : (prs y).length ≤ 60 := by
 obtain ⟨c, n, s⟩ := y
 have hM : M64 = 18446744073709551616 := rfl
 have : (textP n s).length ≤ 5020:= by unfold textP; have := encN_len h.2.1; have := encN_len (n := s.length) (by have := h.2.2; simp only at this; omega); have := h.2.2; simp only at *; simp; omega
 unfold prs cntP; simp; omega
theorem allP_len : ∀ {L : List Rw}, (∀ y, y ∈ L → OkRw y) → (allP L).length ≤ L.length * 60
 | [], _ => by simp [allP]
 | a :: L, h => by
  have h1 := prs_len (h a (by simp))
  have h2 := allP_len (L := L) fun y hy => h y (by simp [hy])
  unfold allP at h2 ⊢
  rw [List.flatMap_cons, List.length_append, List.length_cons]; omega
structure ApI (h0 : H) (b : Nat) (L : List Rw) (m : Nat) (ds : List Nat) (tm : T AV) (h : H) (i : Nat) (w : AV) : Prop where
 ds : ds = []
 nn : m = L.length - i
 ii : i ≤ L.length
 t0 : tm.get 0 = some (.ptr b 0)
 t3 : tm.get 3 = some w
 t4 : tm.get 4 = some (.int .i64 (.ofNat i))
 gr : Grows 2 h0.nx h w (allP (L.take i)).length (kpsC (allP (L.take i)))
 oo : Og h0 h []
theorem rPairsC (h0 : H) (b : Nat) (L : List Rw) (v : AV) (k : RfAt h0 b L v) (hz : L.length ≤ 900) (hL : ∀ y, y ∈ L → OkRw y) :
  PushC P (.enter 14 [.ptr b 0] h0) fun u h' => Og h0 h' [] ∧ Grows 2 h0.nx h' u (allP L).length (kpsC (allP L)) := by
 have hlen := k.gr.slice.len (P := P) u39a
 have hv1 := k.gr.one
 have klt := k.lt
 refine pushC_of_codeW (fn := Tryz.f14) (c := bodyC Tryz.f14) Tryz.func14 rfl ?_
 show codeW P 14 25 none _ _ _ _ _
 refine codeW_root ?_
 repeat' (first | ((with_reducible refine st1 ?_); (conv => whnf); (with_reducible refine ⟨?_⟩)) | ((with_reducible refine retW_intro rfl ?_); (conv => arg 2; whnf)) | ((with_reducible first | refine iB ?_ ?_ | refine gWt ?_ ?_ | refine gWf ?_ ?_) <;> intro hb <;> (try simp only [hb])) | (simp only [B, F, reduceLT, reduceLeDiff, reduceEqDiff, reduceAdd, reduceMul, reduceSub, ↓reduceIte, eq_self]))
 refine st_loop (fun m ds tm h => ∃ i w, ApI h0 b L m ds tm h i w) L.length rfl ⟨0, .nilslice, rfl, rfl, Nat.zero_le _, by simp only [B, F, reduceLT, reduceLeDiff, reduceEqDiff, reduceAdd, reduceMul, reduceSub, ↓reduceIte, eq_self], by simp only [B, F, reduceLT, reduceLeDiff, reduceEqDiff, reduceAdd, reduceMul, reduceSub, ↓reduceIte, eq_self], by simp only [B, F, reduceLT, reduceLeDiff, reduceEqDiff, reduceAdd, reduceMul, reduceSub, ↓reduceIte, eq_self], Grows.none, Og.refl _ _⟩ (fun m ds tm h hI => ?_)
 obtain ⟨i, w, rfl, rfl, ii, t0, t3, t4, gr, oo⟩ := hI
 have kh := k.keep oo (by simp)
 have c0 := kh.c0
 have gro := gr.one
 by_cases hi : i < L.length
 ·have d1 : decide (i < L.length) = true := decide_eq_true hi
  have lt1 : (i < L.length) = True:= by simp [hi]
  obtain ⟨⟨c, n, s⟩, hx⟩ : ∃ x, L[i]? = some x := ⟨_, List.getElem?_eq_getElem hi⟩
  have hy := hL _ (List.mem_of_getElem? hx)
  have hpl := prs_len hy
  have hal := allP_len (L := L.take i) fun y q => hL y (List.mem_of_mem_take q)
  have htl : (L.take i).length = i:= by rw [List.length_take]; omega
  have grk := kh.gr
  obtain ⟨bv, ov, cv, rfl, hbv, -⟩ := grk.slice.place (by omega)
  obtain rfl : ov = 0:= by cases grk; rfl
  obtain ⟨q0, q1, q2⟩ := rws_at grk hx
  simp only at q0 q1 q2
  have w1 : wrapF .i64 (Int.ofNat i + Int.ofNat 1) = Int.ofNat (i + 1) := i64_add (by omega)
  repeat' (first | ((with_reducible refine st1 ?_); (conv => whnf); (with_reducible refine ⟨?_⟩)) | ((with_reducible refine retW_intro rfl ?_); (conv => arg 2; whnf)) | ((with_reducible first | refine iB ?_ ?_ | refine gWt ?_ ?_ | refine gWf ?_ ?_) <;> intro hb <;> (try simp only [hb])) | (simp only [B, F, reduceLT, reduceLeDiff, reduceEqDiff, reduceAdd, reduceMul, reduceSub, ↓reduceIte, eq_self, t0, t3, t4, c0, hv1, hlen, gro, d1, lt1, Nat.zero_add, q0, q1, q2]))
  have hy2 := hy.2.2
  simp only at hy2
  refine ((rowPairs h c n s hy.1 hy.2.1 (by omega)).call P).mono P ?_
  rintro u h3 ⟨o3, g3⟩
  have g3o := g3.one
  have gr3 : Grows 2 h0.nx h3 w _ _ := gr.of_get o3.1.1 (fun d e => o3.1.2 d (gr.base e).2 (by simp))
  have x3 := o3.1.1
  have x0 := oo.1.1
  repeat' (first | ((with_reducible refine st1 ?_); (conv => whnf); (with_reducible refine ⟨?_⟩)) | ((with_reducible refine retW_intro rfl ?_); (conv => arg 2; whnf)) | ((with_reducible first | refine iB ?_ ?_ | refine gWt ?_ ?_ | refine gWf ?_ ?_) <;> intro hb <;> (try simp only [hb])) | (simp only [B, F, reduceLT, reduceLeDiff, reduceEqDiff, reduceAdd, reduceMul, reduceSub, ↓reduceIte, eq_self, t0, t3, t4, c0, hv1, hlen, gro, g3o]))
  refine app_row (by omega) u44a i44 gr3 g3 (by omega) (by omega) (fun v7 h7 g7 x7 old7 bl7 gg7 => ?_)
  have g7o := g7.one
  repeat' (first | ((with_reducible refine st1 ?_); (conv => whnf); (with_reducible refine ⟨?_⟩)) | ((with_reducible refine retW_intro rfl ?_); (conv => arg 2; whnf)) | ((with_reducible first | refine iB ?_ ?_ | refine gWt ?_ ?_ | refine gWf ?_ ?_) <;> intro hb <;> (try simp only [hb])) | (simp only [B, F, reduceLT, reduceLeDiff, reduceEqDiff, reduceAdd, reduceMul, reduceSub, ↓reduceIte, eq_self, t4, g7o, w1]))
  have htk : allP (L.take (i + 1)) = allP (L.take i) ++ prs (c, n, s) := by
   unfold allP
   rw [List.take_add_one, hx, List.flatMap_append]; simp
  refine ⟨L.length - (i + 1), by omega, i + 1, v7, rfl, rfl, by omega, by simp only [B, F, reduceLT, reduceLeDiff, reduceEqDiff, reduceAdd, reduceMul, reduceSub, ↓reduceIte, eq_self, t0], by simp only [B, F, reduceLT, reduceLeDiff, reduceEqDiff, reduceAdd, reduceMul, reduceSub, ↓reduceIte, eq_self], by simp only [B, F, reduceLT, reduceLeDiff, reduceEqDiff, reduceAdd, reduceMul, reduceSub, ↓reduceIte, eq_self], by rw [htk, kps_app, List.length_append]; exact g7, ⟨by omega, fun d hd _ => ?_⟩, by rw [gg7, o3.2, oo.2]⟩
  rw [old7 d (by omega) (fun e => by have := (gr.base e).1; omega), o3.1.2 d (by omega) (by simp), oo.1.2 d hd (by simp)]
 ·have d1 : decide (i < L.length) = false := decide_eq_false hi
  obtain rfl : i = L.length:= by omega
  rw [List.take_length] at gr
  repeat' (first | ((with_reducible refine st1 ?_); (conv => whnf); (with_reducible refine ⟨?_⟩)) | ((with_reducible refine retW_intro rfl ?_); (conv => arg 2; whnf)) | ((with_reducible first | refine iB ?_ ?_ | refine gWt ?_ ?_ | refine gWf ?_ ?_) <;> intro hb <;> (try simp only [hb])) | (simp only [B, F, reduceLT, reduceLeDiff, reduceEqDiff, reduceAdd, reduceMul, reduceSub, ↓reduceIte, eq_self, t0, t3, t4, c0, hv1, hlen, gro, d1]))
  exact ⟨oo, gr⟩
structure SmI (h0 : H) (va vb : AV) (n : Nat) (m : Nat) (ds : List Nat) (tm : T AV) (h : H) (i : Nat) : Prop where
 ds : ds = []
 nn : m = n - i
 ii : i ≤ n
 t0 : tm.get 0 = some va
 t1 : tm.get 1 = some vb
 t5 : tm.get 5 = some (.int .i64 (.ofNat i))
 oo : Og h0 h []
theorem sameC (h0 : H) (va vb : AV) (A : List Kp) (ba bb : Nat) (ga : Grows 2 ba h0 va A.length (kpsC A)) (gb : Grows 2 bb h0 vb A.length (kpsC A)) (hz : A.length ≤ 100000) :
  PushC P (.enter 13 [va, vb] h0) (SaysG h0 (.bool true)) := by
 have hla := ga.slice.len (P := P) u44a
 have hlb := gb.slice.len (P := P) u44a
 have va1 := ga.one
 have vb1 := gb.one
 have dd : decide (A.length = A.length) = true := decide_eq_true rfl
 refine pushC_of_codeW (fn := Tryz.f13) (c := bodyC Tryz.f13) Tryz.func13 rfl ?_
 show codeW P 13 26 none _ _ _ _ _
 refine codeW_root ?_
 repeat' (first | ((with_reducible refine st1 ?_); (conv => whnf); (with_reducible refine ⟨?_⟩)) | ((with_reducible refine retW_intro rfl ?_); (conv => arg 2; whnf)) | ((with_reducible first | refine iB ?_ ?_ | refine gWt ?_ ?_ | refine gWf ?_ ?_) <;> intro hb <;> (try simp only [hb])) | (simp only [B, xB, F, reduceLT, reduceLeDiff, reduceEqDiff, reduceAdd, reduceMul, reduceSub, ↓reduceIte, eq_self, va1, vb1, hla, hlb, dd, Bool.not_true]))
 refine st_loop (fun m ds tm h => ∃ i, SmI h0 va vb A.length m ds tm h i) A.length rfl ⟨0, rfl, rfl, Nat.zero_le _, by simp only [B, xB, F, reduceLT, reduceLeDiff, reduceEqDiff, reduceAdd, reduceMul, reduceSub, ↓reduceIte, eq_self], by simp only [B, xB, F, reduceLT, reduceLeDiff, reduceEqDiff, reduceAdd, reduceMul, reduceSub, ↓reduceIte, eq_self], by simp only [B, xB, F, reduceLT, reduceLeDiff, reduceEqDiff, reduceAdd, reduceMul, reduceSub, ↓reduceIte, eq_self], Og.refl _ _⟩ (fun m ds tm h hI => ?_)
 obtain ⟨i, rfl, rfl, ii, t0, t1, t5, oo⟩ := hI
 have ga1 : Grows 2 ba h va A.length (kpsC A) := ga.of_get oo.1.1 (fun d e => oo.1.2 d (ga.base e).2 (by simp))
 have gb1 : Grows 2 bb h vb A.length (kpsC A) := gb.of_get oo.1.1 (fun d e => oo.1.2 d (gb.base e).2 (by simp))
 by_cases hi : i < A.length
 ·have d1 : decide (i < A.length) = true := decide_eq_true hi
  have lt1 : (i < A.length) = True:= by simp [hi]
  obtain ⟨⟨k, p⟩, hx⟩ : ∃ x, A[i]? = some x := ⟨_, List.getElem?_eq_getElem hi⟩
  obtain ⟨bv, ov, cv, rfl, hbv, -⟩ := ga1.slice.place (by omega)
  obtain rfl : ov = 0:= by cases ga1; rfl
  obtain ⟨bw, ow, cw, rfl, hbw, -⟩ := gb1.slice.place (by omega)
  obtain rfl : ow = 0:= by cases gb1; rfl
  obtain ⟨a0, a1⟩ := kps_at ga1 hx
  obtain ⟨b0, b1⟩ := kps_at gb1 hx
  simp only at a0 a1 b0 b1
  have w1 : wrapF .i64 (Int.ofNat i + Int.ofNat 1) = Int.ofNat (i + 1) := i64_add (by omega)
  have ek : listEqB k k = true := (listEqB_iff k k).2 rfl
  have ep : listEqB p p = true := (listEqB_iff p p).2 rfl
  repeat' (first | ((with_reducible refine st1 ?_); (conv => whnf); (with_reducible refine ⟨?_⟩)) | ((with_reducible refine st_dw ?_ rfl rfl ?_ ?_); exact rfl; kernel_rfl; (conv => arg 5; whnf); (conv => arg 3; whnf)) | ((with_reducible refine retW_intro rfl ?_); (conv => arg 2; whnf)) | ((with_reducible first | refine iB ?_ ?_ | refine gWt ?_ ?_ | refine gWf ?_ ?_ | refine gXt ?_ ?_ | refine gXf ?_ ?_) <;> intro hb <;> (try simp only [hb])) | ((with_reducible show drawI _ _ _ _ _ _ _ _ _); first | ((with_reducible refine kI_rd ?_ ?_); exact rfl) | ((with_reducible apply kI_rg); exact rfl; exact rfl) | ((with_reducible refine kI_cv ?_ ?_ ?_); exact rfl; kernel_rfl) | ((with_reducible apply kI_al); exact rfl; exact rfl) | ((with_reducible refine kI_ex ?_ ?_ ?_ ?_ ?_); exact rfl; kernel_rfl; exact rfl) | ((with_reducible apply kI_eg); exact rfl; kernel_rfl; exact rfl) | ((with_reducible refine kI_nl ?_ ?_))) | ((with_reducible show eOk _ _ _ _ _ _); first | (exact eok_nil) | (refine ke_rd ?_ ?_ ?_; exact rfl) | (apply ke_rg; exact rfl; exact rfl) | (refine ke_cv ?_ ?_ ?_ ?_; exact rfl; kernel_rfl) | (apply ke_fl; exact rfl) | (apply ke_al; exact rfl; exact rfl)) | ((with_reducible refine freshIs_new ?_); kernel_rfl) | (simp only [B, xB, F, reduceLT, reduceLeDiff, reduceEqDiff, reduceAdd, reduceMul, reduceSub, ↓reduceIte, eq_self, t0, t1, t5, va1, vb1, hla, hlb, d1, lt1, Nat.zero_add, a0, a1, b0, b1, ek, ep, w1]))
  exact ⟨A.length - (i + 1), by omega, i + 1, rfl, rfl, by omega, by simp only [B, xB, F, reduceLT, reduceLeDiff, reduceEqDiff, reduceAdd, reduceMul, reduceSub, ↓reduceIte, eq_self, t0], by simp only [B, xB, F, reduceLT, reduceLeDiff, reduceEqDiff, reduceAdd, reduceMul, reduceSub, ↓reduceIte, eq_self, t1], by simp only [B, xB, F, reduceLT, reduceLeDiff, reduceEqDiff, reduceAdd, reduceMul, reduceSub, ↓reduceIte, eq_self], oo⟩
 ·have d1 : decide (i < A.length) = false := decide_eq_false hi
  repeat' (first | ((with_reducible refine st1 ?_); (conv => whnf); (with_reducible refine ⟨?_⟩)) | ((with_reducible refine retW_intro rfl ?_); (conv => arg 2; whnf)) | ((with_reducible first | refine iB ?_ ?_ | refine gWt ?_ ?_ | refine gWf ?_ ?_) <;> intro hb <;> (try simp only [hb])) | (simp only [B, xB, F, reduceLT, reduceLeDiff, reduceEqDiff, reduceAdd, reduceMul, reduceSub, ↓reduceIte, eq_self, t0, t1, t5, va1, vb1, hla, hlb, d1]))
  exact ⟨rfl, oo⟩
end
end Go.Proofs.YtllmfnedkhiomaaGreatDoor.S

namespace Go.Proofs.YtllmfnedkhiomaaGreatDoor.S
open Go Go.AX
noncomputable section
set_option maxRecDepth 100000
theorem retW_undefL {fn : Func} {rl : List ResultVar} {tm : T AV} {Q : AV → H → Prop} (hl : fn.results.toList = rl) : ∀ (ds : List Nat) (h : H), ds.Nodup → (∀ d, d ∈ ds → h.t.get d = some (.deferred (some []))) →
  (∀ h', h'.nx = h.nx → (∀ c, c ∉ ds → h'.t.get c = h.t.get c) → h'.g = h.g → retW P rl tm h' Q) → retK P fn Q .ret ds tm h
 | [], h, _, _, hw => retW_intro hl (hw h rfl (fun _ _ => rfl) rfl)
 | d :: ds, h, hn, hd, hw => by
  rw [List.nodup_cons] at hn
  have ih := retW_undefL (tm := tm) (Q := Q) hl ds (h.obj d (.deferred none)) hn.2 (fun e he => by rw [get_obj_ne (fun q => hn.1 (by rw [← q]; exact he))]; exact hd e (by simp [he])) (fun h' e1 e2 e3 => hw h' e1 (fun c hc => by
   simp only [List.mem_cons, not_or] at hc
   rw [e2 c hc.2, get_obj_ne hc.1]) e3)
  rw [retK_ret] at ih ⊢
  obtain ⟨h2, hu, r⟩ := ih
  refine ⟨h2, ?_, r⟩
  unfold AX.undef
  rw [hd d (by simp)]
  exact hu
def outF (L : List (List Nat × AV)) (ps : List Kp) : List (List Nat × AV) := ps.foldl (fun L p => mapPut p.1 (.str p.2) L) L
theorem outF_s (L : List (List Nat × AV)) {ps : List Kp} {i : Nat} {p : Kp} (h : ps[i]? = some p) : outF L (ps.take (i + 1)) = mapPut p.1 (.str p.2) (outF L (ps.take i)) := by
 unfold outF
 rw [List.take_add_one, h, List.foldl_append]; rfl
theorem prs_at {c n i : Nat} {s : List Nat} (h : i < cntP (textP n s)) : (prs (c, n, s))[i]? = some (keyP c i, pieceP (textP n s) i) := by
 unfold prs
 rw [List.getElem?_map, List.getElem?_range h]; rfl
theorem prs_len' (c n : Nat) (s : List Nat) : (prs (c, n, s)).length = cntP (textP n s):= by unfold prs; simp
noncomputable abbrev loopP (hk : H) (tm : T AV) : ALoop := loopR 9 31 tm [25, 26] (codeI (bodyC Tryz.f9) [0, 0, 1, 1, 0, 1, 1, 0, 0, 1, 0, 1, 1, 1]) (codeI (bodyC Tryz.f9) [1, 0, 1, 1, 0, 1, 1, 0, 0, 1, 0, 1, 1, 1]) hk.nx .ready
theorem roundP (hk : H) (ro bo : Nat) (tm : T AV) (t3 : tm.get 3 = some (.ptr bo 0)) (cb : cellAt hk bo 0 = some (.map ro)) (hbo : bo < hk.nx) (hro : ro < hk.nx) (hne : bo ≠ ro) (h : H) (key p : List Nat) (L : List (List Nat × AV)) (hj : OJ hk ro (loopP hk tm) L h) :
  PushC P (.round (hk.nx + 1) [.str key, .str p] h) fun v h' => v = .bool true ∧ OJ hk ro (loopP hk tm) (mapPut key (.str p) L) h' := by
 refine round_walk (tm := (tm.set 25 (some (.str key))).set 26 (some (.str p))) hj.lp rfl ?_
 show codeW P 9 31 (some (hk.nx + 1)) (codeI (bodyC Tryz.f9) [0, 0, 1, 1, 0, 1, 1, 0, 0, 1, 0, 1, 1, 1]) _ _ _ _
 repeat' (first | ((with_reducible refine st1 ?_); (conv => whnf); (with_reducible refine ⟨?_⟩)) | ((with_reducible refine retW_intro rfl ?_); (conv => arg 2; whnf)) | ((with_reducible first | refine iB ?_ ?_ | refine gWt ?_ ?_ | refine gWf ?_ ?_) <;> intro hb <;> (try simp only [hb])) | (simp only [B, F, reduceLT, reduceLeDiff, reduceEqDiff, reduceAdd, reduceMul, reduceSub, ↓reduceIte, eq_self]))
 refine asg_norm hj.lp rfl ?_
 show codeW P 9 31 (some (hk.nx + 1)) (codeI (bodyC Tryz.f9) [1, 0, 1, 1, 0, 1, 1, 0, 0, 1, 0, 1, 1, 1]) _ _ _ _
 have j1 : OJ hk ro { loopP hk tm with state := .busy } L (h.obj (hk.nx + 1) (.loop { loopP hk tm with state := .busy })) := hj.state hro
 obtain ⟨h1, e1⟩ : ∃ h1, h1 = h.obj (hk.nx + 1) (.loop { loopP hk tm with state := .busy }) := ⟨_, rfl⟩
 rw [← e1] at j1
 have cb1 : cellAt h1 bo 0 = some (.map ro):= by rw [cellAt_of_get (j1.old bo hbo hne)]; exact cb
 obtain ⟨h3, hu, m3, x3, o3, g3⟩ := update_k u31a k9 j1.mp key (.str p)
 have j3 := j1.put o3 hro m3 g3
 rw [← e1]
 repeat' (first | ((with_reducible refine st1 ?_); (conv => whnf); (with_reducible refine ⟨?_⟩)) | ((with_reducible refine retW_intro rfl ?_); (conv => arg 2; whnf)) | ((with_reducible first | refine iB ?_ ?_ | refine gWt ?_ ?_ | refine gWf ?_ ?_) <;> intro hb <;> (try simp only [hb])) | (simp only [B, F, reduceLT, reduceLeDiff, reduceEqDiff, reduceAdd, reduceMul, reduceSub, ↓reduceIte, eq_self, t3, cb1, @ex_mapUpdate, hu, oH_some]))
 exact roundEnd_norm (r := loopP hk tm) j3.lp rfl rfl ⟨rfl, j3.state hro⟩
theorem loopPC (hk : H) (ro bo b1 b2 c num : Nat) (r : List Nat) (L0 : List (List Nat × AV)) (ds : List Nat) (tm : T AV) (K : KQ) (t24 : tm.get 24 = some (.func 38 [] [.ptr b1 0, .ptr b2 0])) (t3 : tm.get 3 = some (.ptr bo 0)) (cb : cellAt hk bo 0 = some (.map ro)) (hbo : bo < hk.nx) (hne : bo ≠ ro) (gl : Gl hk) (hr3 : ro ≠ 7)
  (mp : MapK encS hk ro L0) (k0 : cellAt hk b1 0 = some (.int .u64 (.ofNat num))) (k1 : cellAt hk b1 1 = some (.str r)) (k2 : cellAt hk b2 0 = some (.int .u64 (.ofNat c))) (hb1 : b1 < hk.nx) (hb2 : b2 < hk.nx) (n2 : b2 ≠ ro) (hn : num < M64) (hr : r.length < 5000) (hc : c < M64)
  (hK : ∀ h2, hk.nx + 2 ≤ h2.nx → (∀ b, b < hk.nx → b ≠ ro → h2.t.get b = hk.t.get b) → h2.t.get hk.nx = some (.deferred (some [])) → h2.g = hk.g → MapK encS h2 ro (outF L0 (prs (c, num, r))) → K .norm (hk.nx :: ds) tm h2) :
  codeW P 9 31 none (codeI (bodyC Tryz.f9) [0, 1, 1, 0, 1, 1, 0, 0, 1, 0, 1, 1, 1]) ds tm hk K := by
 have hro := mp.lt
 refine st_rf rfl (f := .tmp 24) (ps := #[25, 26]) rfl rfl ?_
 refine rf_walk (g := 38) (cap := [.ptr b1 0, .ptr b2 0]) (by rw [evalA_tmp, t24]; rfl) (fun args h => callV_func 38 (by kernel_rfl) [] _ args) ?_
 have hbase : ∀ b, b < hk.nx → (loopH hk 9 31 tm [25, 26] (codeI (bodyC Tryz.f9) [0, 0, 1, 1, 0, 1, 1, 0, 0, 1, 0, 1, 1, 1]) (codeI (bodyC Tryz.f9) [1, 0, 1, 1, 0, 1, 1, 0, 0, 1, 0, 1, 1, 1])).t.get b = hk.t.get b := fun b hb => by rw [loopH_get, if_neg (by omega), if_neg (by omega)]
 have hJ0 : OJ hk ro (loopP hk tm) L0 (loopH hk 9 31 tm [25, 26] (codeI (bodyC Tryz.f9) [0, 0, 1, 1, 0, 1, 1, 0, 0, 1, 0, 1, 1, 1]) (codeI (bodyC Tryz.f9) [1, 0, 1, 1, 0, 1, 1, 0, 0, 1, 0, 1, 1, 1])) :=
  ⟨by rw [loopH_nx]; omega, fun b hb _ => hbase b hb, by rw [loopH_get, if_pos rfl], by rw [loopH_get, if_neg (by omega), if_pos rfl], mp.get (by rw [loopH_nx]; omega) (hbase _ hro), rfl⟩
 refine (piecesC _ (hk.nx + 1) b1 b2 c num r hn hr hc (fun i h => OJ hk ro (loopP hk tm) (outF L0 ((prs (c, num, r)).take i)) h) (by rw [cellAt_of_get (hbase _ hb1)]; exact k0) (by rw [cellAt_of_get (hbase _ hb1)]; exact k1) (by rw [loopH_nx]; omega) (fun i h h' j o => j.keep o)
  (fun i h j => ⟨gl.hk (by have := j.nx; omega) j.old hr3 j.g, by rw [cellAt_of_get (j.old _ hb2 n2)]; exact k2, by have := j.nx; omega⟩) (fun i h j hi => ?_) hJ0).mono P ?_
 ·rw [outF_s L0 (prs_at hi)]
  exact roundP hk ro bo tm t3 cb hbo hro hne h _ _ _ j
 rintro _ h2 j
 refine ⟨j.lp, ?_⟩
 have j2 : OJ hk ro { loopP hk tm with state := .exhausted } _ _ := j.state (R' := { loopP hk tm with state := .exhausted }) hro
 refine hK _ j2.nx j2.old j2.df j2.g ?_
 have := j2.mp
 rw [← prs_len' c num r, List.take_length] at this
 exact this
end
end Go.Proofs.YtllmfnedkhiomaaGreatDoor.S

namespace Go.Proofs.YtllmfnedkhiomaaGreatDoor.S
open Go Go.AX
noncomputable section
set_option maxRecDepth 100000
theorem mapV_split {R : List Rw} {p : Nat × AV} {R1 R2 : List (Nat × AV)} (h : mapV R = R1 ++ p :: R2) : ∃ S1 x S2, R = S1 ++ x :: S2 ∧ mapV S1 = R1 ∧ p = (x.1, lsA x.2) ∧ mapV S2 = R2 := by
 unfold mapV at h
 obtain ⟨S1, S', e, q1, q2⟩ := List.map_eq_append_iff.1 h
 obtain ⟨x, S2, e2, q3, q4⟩ := List.map_eq_cons_iff.1 q2
 subst e2
 exact ⟨S1, x, S2, e, q1, q3.symm, q4⟩
theorem perm_step {α : Type} {V S1 S2 L : List α} {x : α} (h : (V ++ (S1 ++ x :: S2)).Perm L) : (V ++ [x] ++ (S1 ++ S2)).Perm L := by
 refine List.Perm.trans ?_ h
 rw [List.append_assoc]
 refine List.Perm.append_left V ?_
 rw [List.singleton_append]
 exact List.perm_middle.symm
theorem mapV_app (A B : List Rw) : mapV (A ++ B) = mapV A ++ mapV B:= by unfold mapV; rw [List.map_append]
structure PaI (h0 : H) (b r bo ro it : Nat) (Bk : List Rw) (m : Nat) (ds : List Nat) (tm : T AV) (h : H) (V R : List Rw) : Prop where
 nn : m = R.length
 pm : (V ++ R).Perm Bk
 t3 : tm.get 3 = some (.ptr bo 0)
 t16 : tm.get 16 = some (.ptr it 0)
 rg : RngK encU h it r (mapV Bk) (mapV V) (mapV R)
 mp : MapK encS h ro (outF [] (allP V))
 cb : cellAt h bo 0 = some (.map ro)
 nd : ds.Nodup
 df : ∀ d, d ∈ ds → h.t.get d = some (.deferred (some [])) ∧ h0.nx + 3 ≤ d ∧ d < h.nx
 oo : Og h0 h []
theorem pairsC (h0 : H) (b r : Nat) (Bk : List Rw) (k : BkAt h0 b r Bk) (gl : Gl h0) (hB : ∀ y, y ∈ Bk → OkRw y) :
  PushC P (.enter 9 [.ptr b 0] h0) fun u h' => ∃ ro V, u = .map ro ∧ Og h0 h' [] ∧ h0.nx ≤ ro ∧ V.Perm Bk ∧ MapK encS h' ro (outF [] (allP V)) := by
 obtain ⟨h1, h1e⟩ : ∃ h1, h1 = h0.alloc (.map [] 0) := ⟨_, rfl⟩
 have o1 : Og h0 h1 []:= by rw [h1e]; exact (Og.refl _ _).alloc _
 have x1 : h1.nx = h0.nx + 1:= by rw [h1e]; rfl
 have m1 : MapK encS h1 h0.nx []:= by rw [h1e]; exact newMap h0 encS
 obtain ⟨h2, h2e⟩ : ∃ h2, h2 = (h1.newCells 25 [AV.nilmap]).sts h1.nx 0 [.map h0.nx] := ⟨_, rfl⟩
 have o12 : Og h1 h2 []:= by rw [h2e]; exact ((Og.refl _ _).new _ _).sts (.inr (Nat.le_refl _))
 have x2 : h2.nx = h1.nx + 1:= by rw [h2e, nx_sts, nx_new]
 have y2 : cellAt h2 h1.nx 0 = some (.map h0.nx):= by rw [h2e, cellAt_sts (by rw [wrAt_new, if_pos rfl]), if_pos ⟨rfl, Nat.zero_le _, by simp⟩]; rfl
 have o2 := o1.t o12
 have k2 := k.keep o2 (by simp) (by simp)
 have c0 := k2.c0
 have lt0 := k.lt
 have ltr := k.mm.lt
 have gx := gl.x
 obtain ⟨h3, hrg, rg3, x3, o3, gg3⟩ := range_k (P := P) k2.mm u52a
 have o23 : Og h2 h3 [] := ⟨o3, gg3⟩
 have o03 := o2.t o23
 refine pushC_of_codeW (fn := Tryz.f9) (c := bodyC Tryz.f9) Tryz.func9 rfl ?_
 show codeW P 9 31 none _ _ _ _ _
 refine codeW_root ?_
 repeat' (first | ((with_reducible refine st1 ?_); (conv => whnf); (with_reducible refine ⟨?_⟩)) | ((with_reducible refine retW_intro rfl ?_); (conv => arg 2; whnf)) | ((with_reducible first | refine iB ?_ ?_ | refine gWt ?_ ?_ | refine gWf ?_ ?_) <;> intro hb <;> (try simp only [hb])) | (simp only [B, F, reduceLT, reduceLeDiff, reduceEqDiff, reduceAdd, reduceMul, reduceSub, ↓reduceIte, eq_self, mk31, ← h1e, ← h2e, c0, @ex_range, hrg]))
 refine st_loop (fun m ds tm h => ∃ V R, PaI h0 b r h1.nx h0.nx h2.nx Bk m ds tm h V R) Bk.length rfl ⟨[], Bk, rfl, List.Perm.refl _, by simp only [B, F, reduceLT, reduceLeDiff, reduceEqDiff, reduceAdd, reduceMul, reduceSub, ↓reduceIte, eq_self], by simp only [B, F, reduceLT, reduceLeDiff, reduceEqDiff, reduceAdd, reduceMul, reduceSub, ↓reduceIte, eq_self], rg3, (m1.keep o12.1 (by simp)).keep o3 (by simp), kc y2 o23 (by omega) (by simp), List.nodup_nil, fun d hd => (by cases hd), o03⟩ (fun m ds tm h hI => ?_)
 obtain ⟨V, R, rfl, pm, t3, t16, rg, mp, cb, nd, df, oo⟩ := hI
 have xo := oo.1.1
 repeat' (first | (with_reducible refine stopC [0, 0, 0, 1, 0, 1, 1, 1] ?_) | ((with_reducible refine st1 ?_); (conv => whnf); (with_reducible refine ⟨?_⟩)) | ((with_reducible refine retW_intro rfl ?_); (conv => arg 2; whnf)) | ((with_reducible first | refine iB ?_ ?_ | refine gWt ?_ ?_ | refine gWf ?_ ?_) <;> intro hb <;> (try simp only [hb])) | (simp only [B, F, reduceLT, reduceLeDiff, reduceEqDiff, reduceAdd, reduceMul, reduceSub, ↓reduceIte, eq_self]))
 refine ⟨pk1 ?_⟩
 (conv => whnf)
 with_reducible refine ⟨?_⟩
 refine pick_k rfl rfl t16 rg (fun hR => ?_) (fun p R1 R2 h4 hR rg4 x4 o4 gg4 hen => ?_)
 ·obtain rfl : R = []:= by unfold mapV at hR; exact List.map_eq_nil_iff.1 hR
  rw [List.append_nil] at pm
  repeat' (first | ((with_reducible refine st1 ?_); (conv => whnf); (with_reducible refine ⟨?_⟩)) | ((with_reducible refine retW_intro rfl ?_); (conv => arg 2; whnf)) | ((with_reducible first | refine iB ?_ ?_ | refine gWt ?_ ?_ | refine gWf ?_ ?_) <;> intro hb <;> (try simp only [hb])) | (simp only [B, F, reduceLT, reduceLeDiff, reduceEqDiff, reduceAdd, reduceMul, reduceSub, ↓reduceIte, eq_self, t3, cb]))
  refine retW_undefL rfl ds h nd (fun d hd => (df d hd).1) (fun h' e1 e2 e3 => ?_)
  (conv => arg 2; whnf)
  simp only [B, F, reduceLT, reduceLeDiff, reduceEqDiff, reduceAdd, reduceMul, reduceSub, ↓reduceIte, eq_self]
  have hnd : ∀ d, d < h0.nx + 3 → d ∉ ds := fun d hd q => by have := (df d q).2.1; omega
  exact ⟨h0.nx, V, rfl, ⟨⟨by omega, fun d hd _ => by rw [e2 d (hnd d (by omega))]; exact oo.1.2 d hd (by simp)⟩, by rw [e3]; exact oo.2⟩, Nat.le_refl _, pm, mp.get (by omega) (e2 _ (hnd _ (by omega)))⟩
 ·obtain ⟨S1, ⟨c, n, s⟩, S2, rfl, e1, rfl, e2⟩ := mapV_split hR
  have hen4 := hen h4 rfl rfl
  unfold lsA at hen4
  have hy := hB (c, n, s) (pm.mem_iff.1 (by simp))
  have og4 : Og h h4 [h2.nx] := ⟨o4, gg4⟩
  have rl := rg.lt
  have cl := mp.lt
  have cb4 := kc cb og4 (by omega) (by simp; omega)
  have mp4 := mp.keep o4 (by simp; omega)
  obtain ⟨h5, h5e⟩ : ∃ h5, h5 = (h4.newCells 65 [.int .u64 (.ofNat 0), .str []]).sts h4.nx 0 [.int .u64 (.ofNat n), .str s] := ⟨_, rfl⟩
  have o45 : Og h4 h5 []:= by rw [h5e]; exact ((Og.refl _ _).new _ _).sts (.inr (Nat.le_refl _))
  have x5 : h5.nx = h4.nx + 1:= by rw [h5e, nx_sts, nx_new]
  have z0 : cellAt h5 h4.nx 0 = some (.int .u64 (.ofNat n)):= by rw [h5e, cellAt_sts (by rw [wrAt_new, if_pos rfl]), if_pos ⟨rfl, Nat.zero_le _, by simp⟩]; rfl
  have z1 : cellAt h5 h4.nx 1 = some (.str s):= by rw [h5e, cellAt_sts (by rw [wrAt_new, if_pos rfl]), if_pos ⟨rfl, Nat.zero_le _, by simp⟩]; rfl
  repeat' (first | ((with_reducible refine st1 ?_); (conv => whnf); (with_reducible refine ⟨?_⟩)) | ((with_reducible refine retW_intro rfl ?_); (conv => arg 2; whnf)) | ((with_reducible first | refine iB ?_ ?_ | refine gWt ?_ ?_ | refine gWf ?_ ?_) <;> intro hb <;> (try simp only [hb])) | (simp only [B, F, reduceLT, reduceLeDiff, reduceEqDiff, reduceAdd, reduceMul, reduceSub, ↓reduceIte, eq_self, t3, t16, @ex_entry, hen4, ← h5e, z0, z1]))
  refine ((piecC h5 c n s).call P).mono P ?_
  rintro u h6 ⟨rfl, o6, x6, a0, a1, a2⟩
  have o46 := o45.t o6
  have gl6 : Gl h6 := (gl.keep (oo.t ⟨⟨by omega, fun d hd _ => rfl⟩, rfl⟩ : Og h0 h []) (by simp)).keep og4 (by simp; omega) |>.keep o46 (by simp)
  repeat' (first | ((with_reducible refine st1 ?_); (conv => whnf); (with_reducible refine ⟨?_⟩)) | ((with_reducible refine retW_intro rfl ?_); (conv => arg 2; whnf)) | ((with_reducible first | refine iB ?_ ?_ | refine gWt ?_ ?_ | refine gWf ?_ ?_) <;> intro hb <;> (try simp only [hb])) | (simp only [B, F, reduceLT, reduceLeDiff, reduceEqDiff, reduceAdd, reduceMul, reduceSub, ↓reduceIte, eq_self]))
  have hy2 := hy.2.2
  have hy1 := hy.1
  have hy3 := hy.2.1
  simp only at hy1 hy2 hy3
  have hM : M64 = 18446744073709551616 := rfl
  refine loopPC h6 h0.nx h1.nx h5.nx (h5.nx + 1) c n s (outF [] (allP V)) ds _ _ (by simp only [B, F, reduceLT, reduceLeDiff, reduceEqDiff, reduceAdd, reduceMul, reduceSub, ↓reduceIte, eq_self]) (by simp only [B, F, reduceLT, reduceLeDiff, reduceEqDiff, reduceAdd, reduceMul, reduceSub, ↓reduceIte, eq_self, t3]) (kc cb4 o46 (by omega) (by simp)) (by omega) (by omega) gl6 (by omega) (mp4.keep o46.1 (by simp)) a0 a1 a2 (by omega) (by omega) (by omega) hy3 (by omega) (by omega) ?_
  intro h7 x7 old7 df7 g7 m7
  have o07 : Og h0 h7 [] := ⟨⟨by omega, fun d hd _ => by rw [old7 d (by omega) (by omega), o46.1.2 d (by omega) (by simp), o4.2 d (by omega) (by simp; omega)]; exact oo.1.2 d hd (by simp)⟩, by rw [g7, o46.2, gg4, oo.2]⟩
  have rg7 : RngK encU h7 h2.nx r _ _ _ := rg4.get (by omega) (by rw [old7 _ (by omega) (by omega), o46.1.2 _ (by omega) (by simp)]) (by rw [old7 _ (by omega) (by omega), o46.1.2 _ (by omega) (by simp)])
  repeat' (first | ((with_reducible refine st1 ?_); (conv => whnf); (with_reducible refine ⟨?_⟩)) | ((with_reducible refine retW_intro rfl ?_); (conv => arg 2; whnf)) | ((with_reducible first | refine iB ?_ ?_ | refine gWt ?_ ?_ | refine gWf ?_ ?_) <;> intro hb <;> (try simp only [hb])) | (simp only [B, F, reduceLT, reduceLeDiff, reduceEqDiff, reduceAdd, reduceMul, reduceSub, ↓reduceIte, eq_self]))
  refine ⟨(S1 ++ S2).length, by simp, V ++ [(c, n, s)], S1 ++ S2, rfl, perm_step pm, by simp only [B, F, reduceLT, reduceLeDiff, reduceEqDiff, reduceAdd, reduceMul, reduceSub, ↓reduceIte, eq_self, t3], by simp only [B, F, reduceLT, reduceLeDiff, reduceEqDiff, reduceAdd, reduceMul, reduceSub, ↓reduceIte, eq_self, t16], ?_, ?_, ?_, List.nodup_cons.2 ⟨fun q => ?_, nd⟩, fun d hd => ?_, o07⟩
  ·rw [mapV_app, mapV_app, e1, e2]; exact rg7
  ·have : allP (V ++ [(c, n, s)]) = allP V ++ prs (c, n, s):= by unfold allP; rw [List.flatMap_append]; simp
   rw [this]
   unfold outF at m7 ⊢
   rw [List.foldl_append]; exact m7
  ·rw [cellAt_of_get (old7 _ (by omega) (by omega))]; exact kc cb4 o46 (by omega) (by simp)
  ·have := (df _ q).2.2; omega
  ·rcases List.mem_cons.1 hd with rfl | hd
   ·exact ⟨df7, by omega, by omega⟩
   ·obtain ⟨a, b', c'⟩ := df d hd
    exact ⟨by rw [old7 d (by omega) (by omega), o46.1.2 d (by omega) (by simp), o4.2 d c' (by simp; omega)]; exact a, b', by omega⟩
end
end Go.Proofs.YtllmfnedkhiomaaGreatDoor.S

namespace Go.AX
noncomputable section
open Go.RowKit Go.Sort Go.Shelf Go.Proofs
section
variable {P : Program} {ρ : Ren}
theorem texts_of : ∀ (ks : List (List Nat)) (p : Nat → List UInt8 → Prop), (∀ j s, ks[j]? = some s → ∃ x, nats x = s ∧ p j x) → ∃ ss : List (List UInt8), ss.map nats = ks ∧ ∀ j x, ss[j]? = some x → p j x
 | [], p, _ => ⟨[], rfl, fun j x h => by simp at h⟩
 | s :: ks, p, h => by
  obtain ⟨x, hx, px⟩ := h 0 s rfl
  obtain ⟨ss, h1, h2⟩ := texts_of ks (fun j => p (j + 1)) (fun j s hs => h (j + 1) s (by simpa using hs))
  refine ⟨x :: ss, by rw [List.map_cons, hx, h1], fun j y hy => ?_⟩
  cases j with
  | zero => simp at hy; subst hy; exact px
  | succ j => exact h2 j y (by simpa using hy)
theorem sortS_len (l : List (List Nat)) : (sortS l).length = l.length := (sortS_perm l).length_eq
theorem sortStr_ok (L : SlLaysM.n6 P ρ) {h : H} {b o : Nat} {cap : Cap} {ks : List (List Nat)} (hz : ks.length < 4611686018427387904) (hc : CellsAt h b o (ks.map .str)) (hw : wrAt h b = true) (f : FuncId) (hf : ρ.f 6 = f) {Q : AV → H → Prop}
  (hq : Q (.tuple []) (h.sts b o ((sortS ks).map .str))) : CallC P (.enter f [.slice b o ks.length cap] h) Q := by
 classical
 subst hf
 let K : Hook := ⟨fun f0 args h0 => if f0 = ρ.f 6 ∧ args = [.slice b o ks.length cap] ∧ h0 = h then some (.tuple [], h.sts b o ((sortS ks).map .str)) else none, fun _ _ _ => none⟩
 have hK : HookOk P K := by
  refine ⟨?_, fun _ _ _ _ _ h => (by cases h)⟩
  intro f0 args h0 v h' hk N φ w cargs hr hN ha
  replace hk : (if f0 = ρ.f 6 ∧ args = [.slice b o ks.length cap] ∧ h0 = h then some (AV.tuple [], h.sts b o ((sortS ks).map .str)) else none) = some (v, h') := hk
  by_cases hcond : f0 = ρ.f 6 ∧ args = [.slice b o ks.length cap] ∧ h0 = h
  ·rw [if_pos hcond] at hk
   obtain ⟨rfl, rfl, rfl⟩ := hcond
   cases hk
   obtain ⟨v1, vs, hc1, h1, hr2⟩ := All2.cons_left.1 ha
   have := All2.nil_left.1 hr2; subst this
   have hca : cargs = #[v1]:= by cases cargs; simp_all
   subst hca
   obtain ⟨L0, kc, hL, rfl⟩ : ∃ L k, φ b = some L ∧ v1 = .slice (some ⟨L.B, L.base + o, none⟩) ks.length k := by
    cases cap with
    | exact c => rw [VR_sliceEx] at h1; obtain ⟨L, h1, h2⟩ := h1; exact ⟨L, c, h1, h2⟩
    | opn i => rw [VR_sliceOp] at h1; obtain ⟨L, h1, h2, _⟩ := h1; exact ⟨L, _, h1, h2⟩
   unfold wrAt at hw
   split at hw
   ·rename_i m t kk hb
    obtain ⟨c, ty, frz, g1, g2, g3, g4, g5⟩ := hr.get hb hL
    have hlt : L0.B < w.heap.size := (hr.get hb hL).lt
    obtain ⟨hNB, hfr⟩ := g4 rfl
    obtain ⟨ss, hss, hat⟩ := texts_of ks (fun j x => c[L0.base + (o + j)]? = some (encStr x) ∧ o + j < m) (fun j s hs => by
     have hj := (List.getElem?_eq_some_iff.1 hs).1
     have hcj := hc j (by simpa using hj)
     rw [List.getElem?_map, hs] at hcj
     unfold cellAt at hcj
     rw [hb] at hcj
     obtain ⟨q1, q2, cv, q3, q4⟩ := g3 _ _ hcj
     rw [VR_str] at q4
     obtain ⟨ba, rfl, e⟩ := q4
     exact ⟨ba.data.toList, e, by rw [q3], q1⟩)
    have hlen : ss.length = ks.length:= by rw [← hss, List.length_map]
    have hH : Holds encStr w L0.B (L0.base + o) ss.toArray := by
     intro j hj
     have hj' : j < ss.length:= by simpa using hj
     obtain ⟨q3, q5⟩ := hat j ss[j] (List.getElem?_eq_getElem hj')
     have e0 : ss.toArray[j]! = ss[j]:= by rw [getElem!_pos ss.toArray j hj]; rfl
     rw [e0]
     refine ⟨by rw [cell_eq g1, Nat.add_assoc]; exact q3, ?_⟩
     rw [frozen_eq g1]
     have hi := (Array.getElem?_eq_some_iff.1 q3).1
     have := hfr _ hi
     rw [Nat.add_assoc]
     simp only [Bool.and_eq_false_iff, decide_eq_false_iff_not]; omega
    have hcall := AnyM.slices_Sort_string L L0.B (L0.base + o) kc ss w hH hlt (by omega)
    rw [hlen] at hcall
    refine hcall.mono ?_
    rintro e w' ⟨rfl, nd, os, rfl⟩
    obtain ⟨d, hd⟩ : ∃ d, d = ss.mergeSort leB := ⟨_, rfl⟩
    have hdl : d.length = ks.length:= by rw [hd, List.length_mergeSort, hlen]
    have hds : sortS ks = d.map nats:= by rw [hd, ← hss]; exact sortS_mergeSort (List.Perm.refl _)
    have e1 : (ss.mergeSort fun x y => decide (x ≤ y)) = d := hd.symm
    rw [e1]
    have hw1 : ∀ x, (putRow encStr (Sort.ahead w nd) L0.B (L0.base + o) d.toArray).heap[x]? = if x = L0.B then some (.cells (putCells encStr (L0.base + o) d.toArray c) ty frz) else w.heap[x]? := by
     intro x
     unfold putRow mapBlock
     simp only [Array.getElem?_modify, heap_ahead]
     by_cases q : L0.B = x
     ·subst q; rw [if_pos rfl, if_pos rfl, g1]; rfl
     ·rw [if_neg q, if_neg (fun e => q e.symm)]
    have hput : HR N φ (h0.sts b o ((sortS ks).map .str)) (putRow encStr (Sort.ahead w nd) L0.B (L0.base + o) d.toArray) := by
     unfold H.sts; rw [hb]
     refine hr.set hb hL _ (fun x hx => by rw [hw1, if_neg hx]) ?_
     have hsz : (putCells encStr (L0.base + o) d.toArray c).size = c.size:= by simp [putCells]
     refine ⟨_, ty, frz, by rw [hw1, if_pos rfl], by rw [hsz]; exact g2, fun i v hi => ?_, fun _ => ⟨hNB, by rw [hsz]; exact hfr⟩, fun e => by rw [hsz]; exact g5.1 e, g5.2⟩
     rw [setL_get] at hi
     have hfl : ((sortS ks).map AV.str).length = ks.length:= by rw [List.length_map, sortS_len]
     have hcl : ∀ v, c[L0.base + i]? = some v → (putCells encStr (L0.base + o) d.toArray c)[L0.base + i]? = some (if L0.base + o ≤ L0.base + i ∧ L0.base + i < L0.base + o + ks.length then encStr d.toArray[L0.base + i - (L0.base + o)]! else v) := by
      intro v hv
      unfold putCells
      rw [Array.getElem?_mapIdx, hv]
      simp only [Option.map_some, List.size_toArray, hdl]
     split at hi
     ·rename_i q
      rw [hfl] at q
      have hj : i - o < d.length:= by rw [hdl]; omega
      rw [hds, List.map_map, List.getElem?_map, List.getElem?_eq_getElem hj] at hi
      simp only [Option.map_some, Option.some.injEq, Function.comp] at hi
      subst hi
      have hj2 : i - o < ss.length:= by omega
      obtain ⟨q3, q5⟩ := hat (i - o) ss[i - o] (List.getElem?_eq_getElem hj2)
      rw [show o + (i - o) = i by omega] at q3 q5
      have e0 : d.toArray[i - o]! = d[i - o]:= by rw [getElem!_pos d.toArray (i - o) (by simpa using hj)]; rfl
      refine ⟨q5, rfl, encStr d[i - o], ?_, ?_⟩
      ·rw [hcl _ q3, if_pos (by omega), show L0.base + i - (L0.base + o) = i - o by omega, e0]
      ·rw [VR_str]; exact ⟨_, rfl, by simp [bytesOf, nats]⟩
     ·rename_i q
      rw [hfl] at q
      obtain ⟨q1, q2, cv, q3, q4⟩ := g3 i v hi
      refine ⟨q1, q2, cv, ?_, q4⟩
      rw [hcl _ q3, if_neg (by omega)]
    have hb1 : Below N.n w (putRow encStr (Sort.ahead w nd) L0.B (L0.base + o) d.toArray) :=
     ⟨rfl, rfl, rfl, by unfold putRow mapBlock; simp, fun x hx => by rw [hw1, if_neg (by omega)]⟩
    have hb2 : Below (putRow encStr (Sort.ahead w nd) L0.B (L0.base + o) d.toArray).heap.size (putRow encStr (Sort.ahead w nd) L0.B (L0.base + o) d.toArray) (grow (putRow encStr (Sort.ahead w nd) L0.B (L0.base + o) d.toArray) os) :=
     ⟨rfl, rfl, rfl, by unfold grow; simp, fun x hx => by unfold grow; simp only; rw [Array.getElem?_append_left hx]⟩
    have hbel : Below N.n w (grow (putRow encStr (Sort.ahead w nd) L0.B (L0.base + o) d.toArray) os) := by
     refine ⟨rfl, rfl, rfl, Nat.le_trans hb1.size hb2.size, fun x hx => ?_⟩
     rw [hb2.block x (by have := hb1.size; omega), hb1.block x hx]
    refine ⟨φ, _, rfl, φ.le_refl, by simp, ?_, hbel⟩
    exact ⟨fun x ox hx hn => let ⟨L1, p1, p2⟩ := hput.obj x ox hx hn; ⟨L1, p1, p2.congr (hb2.block _ p2.lt)⟩, hput.inj, hput.lt, hput.res, hput.glob⟩
   ·cases hw
  ·rw [if_neg hcond] at hk; cases hk
 exact CallC.of_hook P hK (by show (if _ then _ else _) = _; rw [if_pos ⟨rfl, rfl, rfl⟩]) hq
theorem sortStr_none (L : SlLaysM.n6 P ρ) {h : H} (f : FuncId) (hf : ρ.f 6 = f) {Q : AV → H → Prop} (hq : Q (.tuple []) h) : CallC P (.enter f [.nilslice] h) Q := by
 classical
 subst hf
 let K : Hook := ⟨fun f0 args h0 => if f0 = ρ.f 6 ∧ args = [.nilslice] ∧ h0 = h then some (.tuple [], h) else none, fun _ _ _ => none⟩
 have hK : HookOk P K := by
  refine ⟨?_, fun _ _ _ _ _ h => (by cases h)⟩
  intro f0 args h0 v h' hk N φ w cargs hr hN ha
  replace hk : (if f0 = ρ.f 6 ∧ args = [.nilslice] ∧ h0 = h then some (AV.tuple [], h) else none) = some (v, h') := hk
  by_cases hcond : f0 = ρ.f 6 ∧ args = [.nilslice] ∧ h0 = h
  ·rw [if_pos hcond] at hk
   obtain ⟨rfl, rfl, rfl⟩ := hcond
   cases hk
   obtain ⟨v1, vs, hc1, h1, hr2⟩ := All2.cons_left.1 ha
   have := All2.nil_left.1 hr2; subst this
   have hca : cargs = #[v1]:= by cases cargs; simp_all
   subst hca
   rw [VR_nilslice] at h1
   subst h1
   refine (AnyM.slices_Sort_string_none L none 0 w).mono ?_
   rintro e w' ⟨rfl, rfl⟩
   exact ⟨φ, _, rfl, φ.le_refl, by simp, hr, Below.refl _ _⟩
  ·rw [if_neg hcond] at hk; cases hk
 exact CallC.of_hook P hK (by show (if _ then _ else _) = _; rw [if_pos ⟨rfl, rfl, rfl⟩]) hq
end
end
end Go.AX

namespace Go.Proofs
open Go.Shelf
def Tryz.keys17_ren : Go.Shelf.Ren := ⟨fun | 7 => 17 | 10 => 31 | n => n, fun | 23 => 25 | 26 => 9 | 3 => 9 | 28 => 60 | 0 => 0 | 27 => 59 | 33 => 83 | 4 => 4 | n => n, fun | n => n⟩
theorem Tryz.keys17 : Go.Proofs.SlLaysZ.n7 Tryz.prog Tryz.keys17_ren := {
 mixed:= by kernel_rfl
 f7 := ⟨Tryz.f17.name, by decide, Tryz.func17.trans (congrArg some (by kernel_rfl))⟩
 f10 := ⟨Tryz.f31.name, by decide, Tryz.func31.trans (congrArg some (by kernel_rfl))⟩
 t0 := Tryz.underlying0
 a0 := Tryz.isAgg0
 z0 := Tryz.sizeOf0
 v0 := Tryz.zeroValue0
 t4 := Tryz.underlying4
 a4 := Tryz.isAgg4
 z4 := Tryz.sizeOf4
 v4 := Tryz.zeroValue4
 t23 := Tryz.underlying25
 a23 := Tryz.isAgg25
 z23 := Tryz.sizeOf25
 v23 := Tryz.zeroValue25
 t26 := Tryz.underlying9
 a26 := Tryz.isAgg9
 z26 := Tryz.sizeOf9
 v26 := Tryz.zeroValue9
 t27 := Tryz.underlying59
 a27 := Tryz.isAgg59
 z27 := Tryz.sizeOf59
 v27 := Tryz.zeroValue59
 t28 := Tryz.underlying60
 a28 := Tryz.isAgg60
 z28 := Tryz.sizeOf60
 v28 := Tryz.zeroValue60
 t33 := Tryz.underlying83
 a33 := Tryz.isAgg83
 z33 := Tryz.sizeOf83
 v33 := Tryz.zeroValue83 }
def Tryz.sorted16_ren : Go.Shelf.Ren := ⟨fun | 6 => 16 | 8 => 29 | 9 => 30 | 11 => 46 | 13 => 48 | 12 => 47 | 23 => 72 | 24 => 73 | 14 => 63 | 15 => 64 | 16 => 65 | 17 => 66 | 18 => 67 | 19 => 68 | 20 => 69 | 21 => 70 | 22 => 71 | 25 => 91 | 26 => 92 | 27 => 93 | 28 => 94 | 29 => 95 | 30 => 96 | 31 => 112 | n => n, fun | 26 => 9 | 28 => 60 | 24 => 57 | 0 => 0 | 3 => 3 | 37 => 98 | 48 => 120 | 50 => 26 | 4 => 4 | 40 => 113 | 39 => 112 | 45 => 117 | 5 => 5 | 9 => 9 | 51 => 141 | 55 => 144 | 57 => 161 | 58 => 162 | 33 => 83 | n => n, fun | n => n⟩
theorem Tryz.sorted16 : Go.Proofs.SlLaysZ.n6 Tryz.prog Tryz.sorted16_ren := {
 mixed:= by kernel_rfl
 f6 := ⟨Tryz.f16.name, by decide, Tryz.func16.trans (congrArg some (by kernel_rfl))⟩
 f8 := ⟨Tryz.f29.name, by decide, Tryz.func29.trans (congrArg some (by kernel_rfl))⟩
 f11 := ⟨Tryz.f46.name, by decide, Tryz.func46.trans (congrArg some (by kernel_rfl))⟩
 t0 := Tryz.underlying0
 a0 := Tryz.isAgg0
 z0 := Tryz.sizeOf0
 v0 := Tryz.zeroValue0
 t24 := Tryz.underlying57
 a24 := Tryz.isAgg57
 z24 := Tryz.sizeOf57
 v24 := Tryz.zeroValue57
 t26 := Tryz.underlying9
 a26 := Tryz.isAgg9
 z26 := Tryz.sizeOf9
 v26 := Tryz.zeroValue9
 t28 := Tryz.underlying60
 a28 := Tryz.isAgg60
 z28 := Tryz.sizeOf60
 v28 := Tryz.zeroValue60
 i26:= by kernel_rfl }
def Tryz.sort30_ren : Go.Shelf.Ren := ⟨fun | 6 => 30 | 8 => 48 | 9 => 47 | 19 => 72 | 20 => 73 | 21 => 63 | 22 => 64 | 23 => 65 | 24 => 66 | 25 => 67 | 26 => 68 | 27 => 69 | 28 => 70 | 29 => 71 | 36 => 91 | 31 => 92 | 32 => 93 | 37 => 94 | 38 => 95 | 39 => 96 | 41 => 112 | n => n, fun | 27 => 57 | 29 => 9 | 3 => 3 | 32 => 98 | 26 => 57 | 0 => 0 | 44 => 120 | 46 => 26 | 4 => 4 | 36 => 113 | 35 => 112 | 41 => 117 | 5 => 5 | 9 => 9 | 53 => 141 | 57 => 144 | 63 => 161 | 64 => 162 | n => n, fun | n => n⟩
theorem Tryz.sort30 : Go.Proofs.SlLaysM.n6 Tryz.prog Tryz.sort30_ren := {
 mixed:= by kernel_rfl
 f6 := ⟨Tryz.f30.name, by decide, Tryz.func30.trans (congrArg some (by kernel_rfl))⟩
 f8 := Tryz.func48.trans (congrArg some (by kernel_rfl))
 f9 := ⟨Tryz.f47.name, by decide, Tryz.func47.trans (congrArg some (by kernel_rfl))⟩
 f19 := Tryz.func72.trans (congrArg some (by kernel_rfl))
 f20 := Tryz.func73.trans (congrArg some (by kernel_rfl))
 f21 := ⟨Tryz.f63.name, by decide, Tryz.func63.trans (congrArg some (by kernel_rfl))⟩
 f22 := ⟨Tryz.f64.name, by decide, Tryz.func64.trans (congrArg some (by kernel_rfl))⟩
 f23 := ⟨Tryz.f65.name, by decide, Tryz.func65.trans (congrArg some (by kernel_rfl))⟩
 f24 := ⟨Tryz.f66.name, by decide, Tryz.func66.trans (congrArg some (by kernel_rfl))⟩
 f25 := ⟨Tryz.f67.name, by decide, Tryz.func67.trans (congrArg some (by kernel_rfl))⟩
 f26 := ⟨Tryz.f68.name, by decide, Tryz.func68.trans (congrArg some (by kernel_rfl))⟩
 f27 := ⟨Tryz.f69.name, by decide, Tryz.func69.trans (congrArg some (by kernel_rfl))⟩
 f28 := ⟨Tryz.f70.name, by decide, Tryz.func70.trans (congrArg some (by kernel_rfl))⟩
 f29 := ⟨Tryz.f71.name, by decide, Tryz.func71.trans (congrArg some (by kernel_rfl))⟩
 f31 := Tryz.func92.trans (congrArg some (by kernel_rfl))
 f32 := Tryz.func93.trans (congrArg some (by kernel_rfl))
 f36 := ⟨Tryz.f91.name, by decide, Tryz.func91.trans (congrArg some (by kernel_rfl))⟩
 f37 := ⟨Tryz.f94.name, by decide, Tryz.func94.trans (congrArg some (by kernel_rfl))⟩
 f38 := ⟨Tryz.f95.name, by decide, Tryz.func95.trans (congrArg some (by kernel_rfl))⟩
 f39 := ⟨Tryz.f96.name, by decide, Tryz.func96.trans (congrArg some (by kernel_rfl))⟩
 f41 := ⟨Tryz.f112.name, by decide, Tryz.func112.trans (congrArg some (by kernel_rfl))⟩
 t0 := Tryz.underlying0
 a0 := Tryz.isAgg0
 z0 := Tryz.sizeOf0
 v0 := Tryz.zeroValue0
 t3 := Tryz.underlying3
 a3 := Tryz.isAgg3
 z3 := Tryz.sizeOf3
 v3 := Tryz.zeroValue3
 t4 := Tryz.underlying4
 a4 := Tryz.isAgg4
 z4 := Tryz.sizeOf4
 v4 := Tryz.zeroValue4
 t5 := Tryz.underlying5
 a5 := Tryz.isAgg5
 z5 := Tryz.sizeOf5
 v5 := Tryz.zeroValue5
 t9 := Tryz.underlying9
 a9 := Tryz.isAgg9
 z9 := Tryz.sizeOf9
 v9 := Tryz.zeroValue9
 t26 := Tryz.underlying57
 a26 := Tryz.isAgg57
 z26 := Tryz.sizeOf57
 v26 := Tryz.zeroValue57
 t27 := Tryz.underlying57
 a27 := Tryz.isAgg57
 z27 := Tryz.sizeOf57
 v27 := Tryz.zeroValue57
 t29 := Tryz.underlying9
 a29 := Tryz.isAgg9
 z29 := Tryz.sizeOf9
 v29 := Tryz.zeroValue9
 t32 := Tryz.underlying98
 a32 := Tryz.isAgg98
 z32 := Tryz.sizeOf98
 v32 := Tryz.zeroValue98
 t35 := Tryz.underlying112
 a35 := Tryz.isAgg112
 z35 := Tryz.sizeOf112
 v35 := Tryz.zeroValue112
 t36 := Tryz.underlying113
 a36 := Tryz.isAgg113
 z36 := Tryz.sizeOf113
 v36 := Tryz.zeroValue113
 t41 := Tryz.underlying117
 a41 := Tryz.isAgg117
 z41 := Tryz.sizeOf117
 v41 := Tryz.zeroValue117
 t44 := Tryz.underlying120
 a44 := Tryz.isAgg120
 z44 := Tryz.sizeOf120
 v44 := Tryz.zeroValue120
 t46 := Tryz.underlying26
 a46 := Tryz.isAgg26
 z46 := Tryz.sizeOf26
 v46 := Tryz.zeroValue26
 t53 := Tryz.underlying141
 a53 := Tryz.isAgg141
 z53 := Tryz.sizeOf141
 v53 := Tryz.zeroValue141
 t57 := Tryz.underlying144
 a57 := Tryz.isAgg144
 z57 := Tryz.sizeOf144
 v57 := Tryz.zeroValue144
 t63 := Tryz.underlying161
 a63 := Tryz.isAgg161
 z63 := Tryz.sizeOf161
 v63 := Tryz.zeroValue161
 t64 := Tryz.underlying162
 a64 := Tryz.isAgg162
 z64 := Tryz.sizeOf162
 v64 := Tryz.zeroValue162 }
end Go.Proofs

namespace Go.Proofs.YtllmfnedkhiomaaGreatDoor.S
open Go Go.AX
noncomputable section
set_option maxRecDepth 100000
theorem u67a : P.underlying 57 = some (.slice 9):= by kernel_rfl
theorem strsC (h : H) (b : Nat) (cap : Cap) (ks : List (List Nat)) (hz : ks.length < 1000000) (hc : CellsAt h b 0 (ks.map .str)) (hw : wrAt h b = true) : PushC P (.enter 27 [.slice b 0 ks.length cap] h) fun v h' => v = .tuple [] ∧ h' = h.sts b 0 ((sortS ks).map .str) := by
 refine pushC_of_codeW (fn := Tryz.f27) (c := bodyC Tryz.f27) Tryz.func27 rfl ?_
 show codeW P 27 4 none _ _ _ _ _
 refine codeW_root ?_
 repeat' (first | ((with_reducible refine st1 ?_); (conv => whnf); (with_reducible refine ⟨?_⟩)) | ((with_reducible refine retW_intro rfl ?_); (conv => arg 2; whnf)) | ((with_reducible first | refine iB ?_ ?_ | refine gWt ?_ ?_ | refine gWf ?_ ?_) <;> intro hb <;> (try simp only [hb])) | (simp only [B, F, reduceLT, reduceLeDiff, reduceEqDiff, reduceAdd, reduceMul, reduceSub, ↓reduceIte, eq_self]))
 refine sortStr_ok Tryz.sort30 (by omega) hc hw 30 rfl ?_
 repeat' (first | ((with_reducible refine st1 ?_); (conv => whnf); (with_reducible refine ⟨?_⟩)) | ((with_reducible refine retW_intro rfl ?_); (conv => arg 2; whnf)) | ((with_reducible first | refine iB ?_ ?_ | refine gWt ?_ ?_ | refine gWf ?_ ?_) <;> intro hb <;> (try simp only [hb])) | (simp only [B, F, reduceLT, reduceLeDiff, reduceEqDiff, reduceAdd, reduceMul, reduceSub, ↓reduceIte, eq_self]))
 rw [retK_norm]
 exact ⟨_, rfl, _, rfl, rfl, rfl⟩
theorem strs0 (h : H) : PushC P (.enter 27 [.nilslice] h) fun v h' => v = .tuple [] ∧ h' = h := by
 refine pushC_of_codeW (fn := Tryz.f27) (c := bodyC Tryz.f27) Tryz.func27 rfl ?_
 show codeW P 27 4 none _ _ _ _ _
 refine codeW_root ?_
 repeat' (first | ((with_reducible refine st1 ?_); (conv => whnf); (with_reducible refine ⟨?_⟩)) | ((with_reducible refine retW_intro rfl ?_); (conv => arg 2; whnf)) | ((with_reducible first | refine iB ?_ ?_ | refine gWt ?_ ?_ | refine gWf ?_ ?_) <;> intro hb <;> (try simp only [hb])) | (simp only [B, F, reduceLT, reduceLeDiff, reduceEqDiff, reduceAdd, reduceMul, reduceSub, ↓reduceIte, eq_self]))
 refine sortStr_none Tryz.sort30 30 rfl ?_
 repeat' (first | ((with_reducible refine st1 ?_); (conv => whnf); (with_reducible refine ⟨?_⟩)) | ((with_reducible refine retW_intro rfl ?_); (conv => arg 2; whnf)) | ((with_reducible first | refine iB ?_ ?_ | refine gWt ?_ ?_ | refine gWf ?_ ?_) <;> intro hb <;> (try simp only [hb])) | (simp only [B, F, reduceLT, reduceLeDiff, reduceEqDiff, reduceAdd, reduceMul, reduceSub, ↓reduceIte, eq_self]))
 rw [retK_norm]
 exact ⟨_, rfl, _, rfl, rfl, rfl⟩
def mS (X : List Kp) : List (List Nat × AV) := X.map fun p => (p.1, .str p.2)
def valX (k : List Nat) (X : List Kp) : List Nat := ((X.find? fun p => decide (k = p.1)).map (·.2)).getD []
theorem get_mS (k : List Nat) : ∀ X : List Kp, (mapGet k (mS X)).getD (.str []) = .str (valX k X)
 | [] => rfl
 | p :: X => by
  have ih := get_mS k X
  unfold mapGet mS valX at *
  rw [List.map_cons, List.find?_cons, List.find?_cons]
  by_cases q : k = p.1
  ·simp [q]
  ·simp only [q, decide_false]; exact ih
theorem mS_split {R : List Kp} {p : List Nat × AV} {R1 R2 : List (List Nat × AV)} (h : mS R = R1 ++ p :: R2) : ∃ S1 x S2, R = S1 ++ x :: S2 ∧ mS S1 = R1 ∧ p = (x.1, .str x.2) ∧ mS S2 = R2 := by
 unfold mS at h
 obtain ⟨S1, S', e, q1, q2⟩ := List.map_eq_append_iff.1 h
 obtain ⟨x, S2, e2, q3, q4⟩ := List.map_eq_cons_iff.1 q2
 subst e2
 exact ⟨S1, x, S2, e, q1, q3.symm, q4⟩
theorem mS_app (A B : List Kp) : mS (A ++ B) = mS A ++ mS B:= by unfold mS; rw [List.map_append]
def strs (ks : List (List Nat)) : List AV := ks.map .str
structure RiI (h0 : H) (ro it : Nat) (X : List Kp) (m : Nat) (ds : List Nat) (tm : T AV) (h : H) (V R : List Kp) (v : AV) : Prop where
 ds : ds = []
 nn : m = R.length
 pm : (V ++ R).Perm X
 t0 : tm.get 0 = some (.map ro)
 t3 : tm.get 3 = some v
 t8 : tm.get 8 = some (.ptr it 0)
 rg : RngK encS h it ro (mS X) (mS V) (mS R)
 gr : Grows 1 (it + 1) h v V.length (strs (V.map (·.1)))
 oo : Og h0 h []
structure RjI (h5 : H) (nb ro : Nat) (X : List Kp) (kv : AV) (ks : List (List Nat)) (m : Nat) (ds : List Nat) (tm : T AV) (h : H) (i : Nat) (v : AV) : Prop where
 ds : ds = []
 nn : m = ks.length - i
 ii : i ≤ ks.length
 t0 : tm.get 0 = some (.map ro)
 t3 : tm.get 3 = some kv
 t5 : tm.get 5 = some v
 t6 : tm.get 6 = some (.int .i64 (.ofNat i))
 gr : Grows 2 nb h v i (kpsC ((ks.take i).map fun k => (k, valX k X)))
 nx : nb ≤ h.nx
 ol : ∀ c, c < nb → h.t.get c = h5.t.get c
 g : h.g = h5.g
theorem z9a : zeroA P 9 = some (.str []):= by kernel_rfl
theorem risingT (h0 h5 : H) (ro : Nat) (X : List Kp) (ks : List (List Nat)) (kv : AV) (mp : MapK encS h5 ro (mS X)) (sk : SliceAt h5 kv ks.length (strs ks)) (oo : Og h0 h5 []) (hz : ks.length ≤ 100000) (tm : T AV) (t0 : tm.get 0 = some (.map ro)) (t3 : tm.get 3 = some kv) (Q : AV → H → Prop)
  (hQ : ∀ u h', Og h0 h' [] → Grows 2 h0.nx h' u ks.length (kpsC (ks.map fun k => (k, valX k X))) → Q u h') :
  codeW P 12 40 none (codeI (bodyC Tryz.f12) [1, 1, 1, 1]) [] tm h5 (retK P Tryz.f12 Q) := by
 have xo := oo.1.1
 have hlen := sk.len (P := P) u67a
 have ltr := mp.lt
 repeat' (first | ((with_reducible refine st1 ?_); (conv => whnf); (with_reducible refine ⟨?_⟩)) | ((with_reducible refine retW_intro rfl ?_); (conv => arg 2; whnf)) | ((with_reducible first | refine iB ?_ ?_ | refine gWt ?_ ?_ | refine gWf ?_ ?_) <;> intro hb <;> (try simp only [hb])) | (simp only [B, xB, F, reduceLT, reduceLeDiff, reduceEqDiff, reduceAdd, reduceMul, reduceSub, ↓reduceIte, eq_self, t0, t3]))
 refine st_loop (fun m ds tm h => ∃ i v, RjI h5 h5.nx ro X kv ks m ds tm h i v) ks.length rfl ⟨0, .nilslice, rfl, rfl, Nat.zero_le _, by simp only [B, xB, F, reduceLT, reduceLeDiff, reduceEqDiff, reduceAdd, reduceMul, reduceSub, ↓reduceIte, eq_self, t0], by simp only [B, xB, F, reduceLT, reduceLeDiff, reduceEqDiff, reduceAdd, reduceMul, reduceSub, ↓reduceIte, eq_self, t3], by simp only [B, xB, F, reduceLT, reduceLeDiff, reduceEqDiff, reduceAdd, reduceMul, reduceSub, ↓reduceIte, eq_self], by simp only [B, xB, F, reduceLT, reduceLeDiff, reduceEqDiff, reduceAdd, reduceMul, reduceSub, ↓reduceIte, eq_self], Grows.none, Nat.le_refl _, fun _ _ => rfl, rfl⟩ (fun m ds tm h hI => ?_)
 clear t0 t3
 obtain ⟨i, v, rfl, rfl, ii, t0, t3, t5, t6, gr, nx, ol, gg⟩ := hI
 have gro := gr.one
 by_cases hi : i < ks.length
 ·have d1 : decide (i < ks.length) = true := decide_eq_true hi
  have lt1 : (i < ks.length) = True:= by simp [hi]
  obtain ⟨k, hk⟩ : ∃ k, ks[i]? = some k := ⟨_, List.getElem?_eq_getElem hi⟩
  obtain ⟨bk, ok, ck, rfl, hbk, hck⟩ := sk.place (by omega)
  have p0 := hck i (by unfold strs; rw [List.length_map]; exact hi)
  unfold strs at p0
  rw [List.getElem?_map, hk] at p0
  have p0 : cellAt h bk (ok + i) = some (.str k):= by rw [cellAt_of_get (ol bk hbk)]; exact p0
  have mph : MapK encS h ro (mS X) := mp.get (by omega) (ol ro ltr)
  have lk := lookup_k (P := P) u31a k9 z9a mph k false
  have lk : lookupA P 25 (.map ro) (.str k) false h = some (.str (valX k X)) := lk.trans (congrArg some (get_mS k X))
  have w1 : wrapF .i64 (Int.ofNat i + Int.ofNat 1) = Int.ofNat (i + 1) := i64_add (by omega)
  obtain ⟨h6, h6e⟩ : ∃ h6, h6 = h.newCells 74 [.str k, .str (valX k X)] := ⟨_, rfl⟩
  have o6 : Og h h6 []:= by rw [h6e]; exact (Og.refl _ _).new _ _
  have x6 : h6.nx = h.nx + 1:= by rw [h6e]; rfl
  have hrow : h6.row h.nx 0 2 = some [.str k, .str (valX k X)] := row_ok (o := 0) (cs := [.str k, .str (valX k X)]) (fun j hj => by rw [h6e, cellAt_new, Nat.zero_add, if_pos rfl]) (by simp)
  have g6 : Grows 2 h5.nx h6 v _ _ := gr.of_get o6.1.1 (fun c e => o6.1.2 c (gr.base e).2 (by simp))
  repeat' (first | ((with_reducible refine st1 ?_); (conv => whnf); (with_reducible refine ⟨?_⟩)) | ((with_reducible refine st_dw ?_ rfl rfl ?_ ?_); exact rfl; kernel_rfl; (conv => arg 5; whnf); (conv => arg 3; whnf)) | ((with_reducible refine retW_intro rfl ?_); (conv => arg 2; whnf)) | ((with_reducible first | refine iB ?_ ?_ | refine gWt ?_ ?_ | refine gWf ?_ ?_ | refine gXt ?_ ?_ | refine gXf ?_ ?_) <;> intro hb <;> (try simp only [hb])) | ((with_reducible show drawI _ _ _ _ _ _ _ _ _); first | ((with_reducible refine kI_rd ?_ ?_); exact rfl) | ((with_reducible apply kI_rg); exact rfl; exact rfl) | ((with_reducible refine kI_cv ?_ ?_ ?_); exact rfl; kernel_rfl) | ((with_reducible apply kI_al); exact rfl; exact rfl) | ((with_reducible refine kI_ex ?_ ?_ ?_ ?_ ?_); exact rfl; kernel_rfl; exact rfl) | ((with_reducible apply kI_eg); exact rfl; kernel_rfl; exact rfl) | ((with_reducible refine kI_nl ?_ ?_))) | ((with_reducible show eOk _ _ _ _ _ _); first | (exact eok_nil) | (refine ke_rd ?_ ?_ ?_; exact rfl) | (apply ke_rg; exact rfl; exact rfl) | (refine ke_cv ?_ ?_ ?_ ?_; exact rfl; kernel_rfl) | (apply ke_fl; exact rfl) | (apply ke_al; exact rfl; exact rfl)) | ((with_reducible refine freshIs_new ?_); kernel_rfl) | (simp only [B, xB, F, reduceLT, reduceLeDiff, reduceEqDiff, reduceAdd, reduceMul, reduceSub, ↓reduceIte, eq_self, t0, t3, t5, t6, hlen, gro, d1, lt1, Nat.mul_one, p0, @ex_lookup, lk, ← h6e, hrow]))
  refine exW_growsG (m := 1) (new := [.str k, .str (valX k X)]) g6 (by omega) (by omega) (by omega) rfl (by omega) (fun v7 h7 g7 x7 old7 blk7 gg7 => ?_)
  have g7o := g7.one
  repeat' (first | ((with_reducible refine st1 ?_); (conv => whnf); (with_reducible refine ⟨?_⟩)) | ((with_reducible refine st_dw ?_ rfl rfl ?_ ?_); exact rfl; kernel_rfl; (conv => arg 5; whnf); (conv => arg 3; whnf)) | ((with_reducible refine retW_intro rfl ?_); (conv => arg 2; whnf)) | ((with_reducible first | refine iB ?_ ?_ | refine gWt ?_ ?_ | refine gWf ?_ ?_ | refine gXt ?_ ?_ | refine gXf ?_ ?_) <;> intro hb <;> (try simp only [hb])) | ((with_reducible show drawI _ _ _ _ _ _ _ _ _); first | ((with_reducible refine kI_rd ?_ ?_); exact rfl) | ((with_reducible apply kI_rg); exact rfl; exact rfl) | ((with_reducible refine kI_cv ?_ ?_ ?_); exact rfl; kernel_rfl) | ((with_reducible apply kI_al); exact rfl; exact rfl) | ((with_reducible refine kI_ex ?_ ?_ ?_ ?_ ?_); exact rfl; kernel_rfl; exact rfl) | ((with_reducible apply kI_eg); exact rfl; kernel_rfl; exact rfl) | ((with_reducible refine kI_nl ?_ ?_))) | ((with_reducible show eOk _ _ _ _ _ _); first | (exact eok_nil) | (refine ke_rd ?_ ?_ ?_; exact rfl) | (apply ke_rg; exact rfl; exact rfl) | (refine ke_cv ?_ ?_ ?_ ?_; exact rfl; kernel_rfl) | (apply ke_fl; exact rfl) | (apply ke_al; exact rfl; exact rfl)) | ((with_reducible refine freshIs_new ?_); kernel_rfl) | (simp only [B, xB, F, reduceLT, reduceLeDiff, reduceEqDiff, reduceAdd, reduceMul, reduceSub, ↓reduceIte, eq_self, t6, g7o, w1]))
  have hbv : ∀ c, c < h5.nx → blkOf v ≠ some c := fun c hc e => by have := (gr.base e).1; omega
  have htk : (ks.take (i + 1)).map (fun k => (k, valX k X)) = (ks.take i).map (fun k => (k, valX k X)) ++ [(k, valX k X)] := by
   rw [List.take_add_one, hk, List.map_append]; rfl
  refine ⟨ks.length - (i + 1), by omega, i + 1, v7, rfl, rfl, by omega, by simp only [B, xB, F, reduceLT, reduceLeDiff, reduceEqDiff, reduceAdd, reduceMul, reduceSub, ↓reduceIte, eq_self, t0], by simp only [B, xB, F, reduceLT, reduceLeDiff, reduceEqDiff, reduceAdd, reduceMul, reduceSub, ↓reduceIte, eq_self, t3], by simp only [B, xB, F, reduceLT, reduceLeDiff, reduceEqDiff, reduceAdd, reduceMul, reduceSub, ↓reduceIte, eq_self], by simp only [B, xB, F, reduceLT, reduceLeDiff, reduceEqDiff, reduceAdd, reduceMul, reduceSub, ↓reduceIte, eq_self], by rw [htk, kps_app]; exact g7, by omega, fun c hc => ?_, ?_⟩
  ·rw [old7 c (by omega) (hbv c hc), o6.1.2 c (by omega) (by simp), ol c hc]
  ·rw [gg7, o6.2, gg]
 ·have d1 : decide (i < ks.length) = false := decide_eq_false hi
  obtain rfl : i = ks.length:= by omega
  rw [List.take_length] at gr
  repeat' (first | ((with_reducible refine st1 ?_); (conv => whnf); (with_reducible refine ⟨?_⟩)) | ((with_reducible refine retW_intro rfl ?_); (conv => arg 2; whnf)) | ((with_reducible first | refine iB ?_ ?_ | refine gWt ?_ ?_ | refine gWf ?_ ?_) <;> intro hb <;> (try simp only [hb])) | (simp only [B, xB, F, reduceLT, reduceLeDiff, reduceEqDiff, reduceAdd, reduceMul, reduceSub, ↓reduceIte, eq_self, t0, t3, t5, t6, hlen, gro, d1]))
  exact hQ _ _ ⟨⟨by omega, fun c hc _ => by rw [ol c (by omega)]; exact oo.1.2 c hc (by simp)⟩, gg.trans oo.2⟩ (gr.wk (by omega))
theorem risingC (h0 : H) (ro : Nat) (X : List Kp) (mp : MapK encS h0 ro (mS X)) (hz : X.length ≤ 100000) :
  PushC P (.enter 12 [.map ro] h0) fun u h' => Og h0 h' [] ∧ ∃ V : List Kp, V.Perm X ∧ Grows 2 h0.nx h' u X.length (kpsC ((sortS (V.map (·.1))).map fun k => (k, valX k X))) := by
 have ltr := mp.lt
 obtain ⟨h3, hrg, rg3, x3, o3, gg3⟩ := range_k (P := P) mp u31a
 have o03 : Og h0 h3 [] := ⟨o3, gg3⟩
 refine pushC_of_codeW (fn := Tryz.f12) (c := bodyC Tryz.f12) Tryz.func12 rfl ?_
 show codeW P 12 40 none _ _ _ _ _
 refine codeW_root ?_
 repeat' (first | ((with_reducible refine st1 ?_); (conv => whnf); (with_reducible refine ⟨?_⟩)) | ((with_reducible refine retW_intro rfl ?_); (conv => arg 2; whnf)) | ((with_reducible first | refine iB ?_ ?_ | refine gWt ?_ ?_ | refine gWf ?_ ?_) <;> intro hb <;> (try simp only [hb])) | (simp only [B, xB, F, reduceLT, reduceLeDiff, reduceEqDiff, reduceAdd, reduceMul, reduceSub, ↓reduceIte, eq_self, @ex_range, hrg]))
 refine st_loop (fun m ds tm h => ∃ V R v, RiI h0 ro h0.nx X m ds tm h V R v) X.length rfl ⟨[], X, .nilslice, rfl, rfl, List.Perm.refl _, by simp only [B, xB, F, reduceLT, reduceLeDiff, reduceEqDiff, reduceAdd, reduceMul, reduceSub, ↓reduceIte, eq_self], by simp only [B, xB, F, reduceLT, reduceLeDiff, reduceEqDiff, reduceAdd, reduceMul, reduceSub, ↓reduceIte, eq_self], by simp only [B, xB, F, reduceLT, reduceLeDiff, reduceEqDiff, reduceAdd, reduceMul, reduceSub, ↓reduceIte, eq_self], rg3, Grows.none, o03⟩ (fun m ds tm h hI => ?_)
 obtain ⟨V, R, v, rfl, rfl, pm, t0, t3, t8, rg, gr, oo⟩ := hI
 have xo := oo.1.1
 have gro := gr.one
 have hln : V.length + R.length = X.length:= by rw [← List.length_append]; exact pm.length_eq
 repeat' (first | (with_reducible refine stopC [0, 0, 0, 1, 0, 1, 1] ?_) | ((with_reducible refine st1 ?_); (conv => whnf); (with_reducible refine ⟨?_⟩)) | ((with_reducible refine retW_intro rfl ?_); (conv => arg 2; whnf)) | ((with_reducible first | refine iB ?_ ?_ | refine gWt ?_ ?_ | refine gWf ?_ ?_) <;> intro hb <;> (try simp only [hb])) | (simp only [B, xB, F, reduceLT, reduceLeDiff, reduceEqDiff, reduceAdd, reduceMul, reduceSub, ↓reduceIte, eq_self]))
 refine ⟨pk1 ?_⟩
 (conv => whnf)
 with_reducible refine ⟨?_⟩
 refine pick_k rfl rfl t8 rg (fun hR => ?_) (fun p R1 R2 h4 hR rg4 x4 o4 gg4 hen => ?_)
 ·obtain rfl : R = []:= by unfold mS at hR; exact List.map_eq_nil_iff.1 hR
  rw [List.append_nil] at pm
  repeat' (first | ((with_reducible refine st1 ?_); (conv => whnf); (with_reducible refine ⟨?_⟩)) | ((with_reducible refine retW_intro rfl ?_); (conv => arg 2; whnf)) | ((with_reducible first | refine iB ?_ ?_ | refine gWt ?_ ?_ | refine gWf ?_ ?_) <;> intro hb <;> (try simp only [hb])) | (simp only [B, xB, F, reduceLT, reduceLeDiff, reduceEqDiff, reduceAdd, reduceMul, reduceSub, ↓reduceIte, eq_self, t3, gro]))
  have hvl : V.length = X.length := pm.length_eq
  have hsl : (sortS (V.map (·.1))).length = X.length:= by rw [sortS_len, List.length_map, hvl]
  have fin : ∀ (tm2 : T AV) (h5 : H), Og h0 h5 [] → SliceAt h5 v (sortS (V.map (·.1))).length (strs (sortS (V.map (·.1)))) → tm2.get 0 = some (.map ro) → tm2.get 3 = some v → MapK encS h5 ro (mS X) →
    codeW P 12 40 none (codeI (bodyC Tryz.f12) [1, 1, 1, 1]) [] tm2 h5 (retK P Tryz.f12 fun u h' => Og h0 h' [] ∧ ∃ V : List Kp, V.Perm X ∧ Grows 2 h0.nx h' u X.length (kpsC ((sortS (V.map (·.1))).map fun k => (k, valX k X)))) := by
   intro tm2 h5 o5 s5 q0 q3 m5
   refine risingT h0 h5 ro X _ v m5 s5 o5 (by omega) tm2 q0 q3 _ (fun u h' o' g' => ⟨o', V, pm, ?_⟩)
   rw [hsl] at g'
   exact g'
  have mph : MapK encS h ro (mS X) := mp.keep oo.1 (by simp)
  generalize hcs : strs (V.map (·.1)) = cs at gr
  generalize hvn : V.length = vn at gr
  cases gr with
  | none =>
   have hV : V = [] := by
    unfold strs at hcs
    rw [List.map_map, List.map_eq_nil_iff] at hcs
    exact hcs
   subst hV
   refine ((strs0 h).call P).mono P ?_
   rintro u h5 ⟨rfl, rfl⟩
   repeat' (first | (with_reducible refine stopC [1, 1, 1, 1] ?_) | ((with_reducible refine st1 ?_); (conv => whnf); (with_reducible refine ⟨?_⟩)) | ((with_reducible refine retW_intro rfl ?_); (conv => arg 2; whnf)) | ((with_reducible first | refine iB ?_ ?_ | refine gWt ?_ ?_ | refine gWf ?_ ?_) <;> intro hb <;> (try simp only [hb])) | (simp only [B, xB, F, reduceLT, reduceLeDiff, reduceEqDiff, reduceAdd, reduceMul, reduceSub, ↓reduceIte, eq_self]))
   refine ⟨fin _ _ oo .none (by simp only [B, xB, F, reduceLT, reduceLeDiff, reduceEqDiff, reduceAdd, reduceMul, reduceSub, ↓reduceIte, eq_self, t0]) (by simp only [B, xB, F, reduceLT, reduceLeDiff, reduceEqDiff, reduceAdd, reduceMul, reduceSub, ↓reduceIte, eq_self, t3]) mph⟩
  | cell b n cs tt ty g1 g2 g3 g4 g5 =>
   have hwr : wrAt h b = true:= by unfold wrAt; rw [g4]
   have hce : CellsAt h b 0 ((V.map (·.1)).map .str) := fun j hj => by
    rw [Nat.zero_add]
    unfold cellAt
    rw [g4, show (V.map (·.1)).map AV.str = cs from hcs]
    exact g5 j
   have hVl : (V.map (·.1)).length = vn:= by simp; exact hvn
   have hcall := strsC h b (.opn 0) (V.map (·.1)) (by omega) hce hwr
   rw [hVl] at hcall
   refine (hcall.call P).mono P ?_
   rintro u h5 ⟨rfl, rfl⟩
   repeat' (first | (with_reducible refine stopC [1, 1, 1, 1] ?_) | ((with_reducible refine st1 ?_); (conv => whnf); (with_reducible refine ⟨?_⟩)) | ((with_reducible refine retW_intro rfl ?_); (conv => arg 2; whnf)) | ((with_reducible first | refine iB ?_ ?_ | refine gWt ?_ ?_ | refine gWf ?_ ?_) <;> intro hb <;> (try simp only [hb])) | (simp only [B, xB, F, reduceLT, reduceLeDiff, reduceEqDiff, reduceAdd, reduceMul, reduceSub, ↓reduceIte, eq_self]))
   have lro := mph.lt
   have o5 : ∀ c, c ≠ b → (h.sts b 0 ((sortS (V.map (·.1))).map .str)).t.get c = h.t.get c := fun c q => get_sts _ _ _ _ q
   refine ⟨fin _ _ ⟨⟨by rw [nx_sts]; omega, fun c hc _ => by rw [o5 c (by omega)]; exact oo.1.2 c hc (by simp)⟩, by rw [g_sts]; exact oo.2⟩ ?_ (by simp only [B, xB, F, reduceLT, reduceLeDiff, reduceEqDiff, reduceAdd, reduceMul, reduceSub, ↓reduceIte, eq_self, t0]) (by simp only [B, xB, F, reduceLT, reduceLeDiff, reduceEqDiff, reduceAdd, reduceMul, reduceSub, ↓reduceIte, eq_self, t3]) (mph.get (by rw [nx_sts]; exact Nat.le_refl _) (o5 ro (by omega)))⟩
   have e1 : vn = (sortS (V.map (·.1))).length:= by omega
   rw [← e1]
   refine .cell b 0 _ _ _ (by rw [nx_sts]; exact g2) (fun j hj => ?_)
   unfold strs at hj ⊢
   rw [cellAt_sts hwr, if_pos ⟨rfl, Nat.zero_le _, by omega⟩, Nat.zero_add, Nat.sub_zero]
 ·obtain ⟨S1, ⟨k, s⟩, S2, rfl, e1, rfl, e2⟩ := mS_split hR
  have hen4 := hen h4 rfl rfl
  have og4 : Og h h4 [h0.nx] := ⟨o4, gg4⟩
  have rl := rg.lt
  obtain ⟨h5, h5e⟩ : ∃ h5, h5 = h4.newCells 9 [.str k] := ⟨_, rfl⟩
  have o5 : Og h4 h5 []:= by rw [h5e]; exact (Og.refl _ _).new _ _
  have x5 : h5.nx = h4.nx + 1:= by rw [h5e]; rfl
  have hrow : h5.row h4.nx 0 1 = some [.str k] := row_ok (o := 0) (cs := [.str k]) (fun j hj => by rw [h5e, cellAt_new, Nat.zero_add, if_pos rfl]) (by simp)
  have g5 : Grows 1 (h0.nx + 1) h5 v _ _ := (gr.of_get (h' := h4) (by omega) (fun c e => o4.2 c (gr.base e).2 (by have := (gr.base e).1; simp; omega))).of_get o5.1.1 (fun c e => o5.1.2 c (by have := (gr.base e).2; omega) (by simp))
  have hlr : (S1 ++ (k, s) :: S2).length = (S1 ++ S2).length + 1:= by simp; omega
  repeat' (first | ((with_reducible refine st1 ?_); (conv => whnf); (with_reducible refine ⟨?_⟩)) | ((with_reducible refine retW_intro rfl ?_); (conv => arg 2; whnf)) | ((with_reducible first | refine iB ?_ ?_ | refine gWt ?_ ?_ | refine gWf ?_ ?_) <;> intro hb <;> (try simp only [hb])) | (simp only [B, xB, F, reduceLT, reduceLeDiff, reduceEqDiff, reduceAdd, reduceMul, reduceSub, ↓reduceIte, eq_self, t3, t8, gro, @ex_entry, hen4, ← h5e, hrow]))
  refine exW_growsG (m := 1) (new := [.str k]) g5 (by omega) (by omega) (by omega) rfl (by omega) (fun v7 h7 g7 x7 old7 blk7 gg7 => ?_)
  have g7o := g7.one
  repeat' (first | ((with_reducible refine st1 ?_); (conv => whnf); (with_reducible refine ⟨?_⟩)) | ((with_reducible refine retW_intro rfl ?_); (conv => arg 2; whnf)) | ((with_reducible first | refine iB ?_ ?_ | refine gWt ?_ ?_ | refine gWf ?_ ?_) <;> intro hb <;> (try simp only [hb])) | (simp only [B, xB, F, reduceLT, reduceLeDiff, reduceEqDiff, reduceAdd, reduceMul, reduceSub, ↓reduceIte, eq_self, g7o]))
  have hbv : ∀ c, c < h0.nx + 1 → blkOf v ≠ some c := fun c hc e => by have := (gr.base e).1; omega
  have rg7 : RngK encS h7 h0.nx ro _ _ _ := rg4.get (by omega) (by rw [old7 _ (by omega) (hbv _ (by omega)), o5.1.2 _ (by omega) (by simp)]) (by rw [old7 _ (by omega) (hbv _ (by omega)), o5.1.2 _ (by omega) (by simp)])
  refine ⟨(S1 ++ S2).length, by omega, V ++ [(k, s)], S1 ++ S2, v7, rfl, rfl, perm_step pm, by simp only [B, xB, F, reduceLT, reduceLeDiff, reduceEqDiff, reduceAdd, reduceMul, reduceSub, ↓reduceIte, eq_self, t0], by simp only [B, xB, F, reduceLT, reduceLeDiff, reduceEqDiff, reduceAdd, reduceMul, reduceSub, ↓reduceIte, eq_self], by simp only [B, xB, F, reduceLT, reduceLeDiff, reduceEqDiff, reduceAdd, reduceMul, reduceSub, ↓reduceIte, eq_self, t8], by rw [mS_app, mS_app, e1, e2]; exact rg7, ?_, ⟨⟨by omega, fun c hc _ => ?_⟩, by rw [gg7, o5.2, gg4, oo.2]⟩⟩
  ·rw [List.length_append, List.length_singleton, List.map_append]
   unfold strs at g7 ⊢
   rw [List.map_append]
   exact g7
  ·rw [old7 c (by omega) (hbv c (by omega)), o5.1.2 c (by omega) (by simp), o4.2 c (by omega) (by simp; omega)]; exact oo.1.2 c hc (by simp)
end
end Go.Proofs.YtllmfnedkhiomaaGreatDoor.S

namespace Go.Proofs.YtllmfnedkhiomaaGreatDoor.S
open Go Go.AX
noncomputable section
abbrev ltL (a b : List Nat) : Prop := listLtB a b = true
theorem ltN_iff : ∀ a b : List Nat, listLtB a b = true ↔ a < b
 | _, [] => by simp [listLtB]
 | [], y :: b => by simp [listLtB]
 | x :: a, y :: b => by
  have ih := ltN_iff a b
  simp only [listLtB]
  rw [List.cons_lt_cons_iff]
  cases h : Nat.blt x y with
  | true =>
   have : x < y := Nat.le_of_ble_eq_true h
   simp [this]
  | false =>
   have hn : ¬ x < y := fun e => by rw [show Nat.blt x y = true from Nat.ble_eq_true_of_le e] at h; cases h
   simp only
   cases h2 : Nat.beq x y with
   | true =>
    have e := Nat.eq_of_beq_eq_true h2
    subst e
    simp only [ih]
    simp
   | false =>
    have hne := Nat.ne_of_beq_eq_false h2
    simp [hn, hne]
theorem leN_le (a b : List Nat) : leN a b ↔ a ≤ b := by
 unfold leN
 rw [← List.not_lt, ← ltN_iff b a]
 simp
theorem insertN_sorted {s : List Nat} : ∀ {l : List (List Nat)}, l.Pairwise leN → (insertS s l).Pairwise leN
 | [], _ => by simp [insertS]
 | t :: l, h => by
  rw [List.pairwise_cons] at h
  simp only [insertS]
  cases hc : listLtB t s with
  | true =>
   simp only [List.pairwise_cons]
   refine ⟨fun x hx => ?_, insertN_sorted h.2⟩
   rcases mem_insertS.1 hx with rfl | hx
   ·rw [leN_le]; exact List.le_of_lt ((ltN_iff _ _).1 hc)
   ·exact h.1 x hx
  | false =>
   have hst : s ≤ t := (leN_le s t).1 hc
   simp only [List.pairwise_cons]
   refine ⟨fun x hx => ?_, h.1, h.2⟩
   rcases List.mem_cons.1 hx with rfl | hx
   ·exact hc
   ·rw [leN_le]; exact List.le_trans hst ((leN_le t x).1 (h.1 x hx))
theorem sortS_sorted : ∀ l : List (List Nat), (sortS l).Pairwise leN
 | [] => List.Pairwise.nil
 | s :: l => insertN_sorted (sortS_sorted l)
theorem sort_eq {ks ys : List (List Nat)} (hp : ks.Perm ys) (hy : ys.Pairwise ltL) : sortS ks = ys := by
 refine List.Perm.eq_of_pairwise (le := leN) (fun a b _ _ h1 h2 => List.le_antisymm ((leN_le a b).1 h1) ((leN_le b a).1 h2)) (sortS_sorted ks) (hy.imp fun {a b} h => ?_) ((sortS_perm ks).trans hp)
 rw [leN_le]; exact List.le_of_lt ((ltN_iff a b).1 h)
theorem ltL_ne {a b : List Nat} (h : ltL a b) : a ≠ b := fun e => by
 subst e
 exact absurd ((ltN_iff a a).1 h) (List.lt_irrefl a)
theorem valX_mem {p : Kp} : ∀ {X : List Kp}, (X.map (·.1)).Nodup → p ∈ X → valX p.1 X = p.2
 | [], _, h => by cases h
 | q :: X, nd, h => by
  rw [List.map_cons, List.nodup_cons] at nd
  unfold valX
  rw [List.find?_cons]
  rcases List.mem_cons.1 h with rfl | h
  ·simp
  ·have hne : p.1 ≠ q.1 := fun e => nd.1 (by rw [← e]; exact List.mem_map_of_mem h)
   simp only [hne, decide_false]
   exact valX_mem nd.2 h
theorem nodup_of_lt {l : List (List Nat)} (h : l.Pairwise ltL) : l.Nodup := h.imp fun {a b} h => ltL_ne h
theorem rising_eq {X V Y : List Kp} (hV : V.Perm X) (hX : X.Perm Y) (hY : (Y.map (·.1)).Pairwise ltL) : (sortS (V.map (·.1))).map (fun k => (k, valX k X)) = Y := by
 rw [sort_eq ((hV.trans hX).map _) hY, List.map_map]
 have nd : (X.map (·.1)).Nodup := (hX.map (·.1)).nodup_iff.2 (nodup_of_lt hY)
 have : ∀ p, p ∈ Y → ((fun k => (k, valX k X)) ∘ fun x : Kp => x.1) p = id p := fun p hp => by
  simp only [Function.comp, id]
  rw [valX_mem nd (hX.mem_iff.2 hp)]
 rw [List.map_congr_left this, List.map_id]
theorem lt_pre : ∀ (p a b : List Nat), listLtB (p ++ a) (p ++ b) = listLtB a b
 | [], a, b => rfl
 | x :: p, a, b => by
  have : Nat.blt x x = false:= by rw [← Bool.not_eq_true, Nat.blt_eq]; omega
  show listLtB (x :: (p ++ a)) (x :: (p ++ b)) = _
  simp only [listLtB, this, Nat.beq_refl]
  exact lt_pre p a b
theorem lt_head {x y : Nat} (h : x < y) (a b : List Nat) : listLtB (x :: a) (y :: b) = true := by
 have : Nat.blt x y = true:= by rw [Nat.blt_eq]; exact h
 simp only [listLtB, this]
theorem hexD_mono {m n : Nat} (h : m < n) (hn : n < 16) : hexD m < hexD n:= by unfold hexD; split <;> split <;> omega
theorem hexF_lt : ∀ (d m n : Nat) (a b : List Nat), m < n → n < 16 ^ d → ltL (hexF m d ++ a) (hexF n d ++ b)
 | 0, m, n, a, b, h, hn => by simp at hn; omega
 | d + 1, m, n, a, b, h, hn => by
  have e : ∀ k c, hexF k (d + 1) ++ c = hexF (k / 16) d ++ (hexD (k % 16) :: c) := fun k c => by
   show (hexF (k / 16) d ++ [hexD (k % 16)]) ++ c = _
   rw [List.append_assoc]; rfl
  rw [e, e]
  rcases Nat.lt_or_ge (m / 16) (n / 16) with q | q
  ·exact hexF_lt d (m / 16) (n / 16) _ _ q (by rw [Nat.pow_succ] at hn; omega)
  ·have q2 : m / 16 = n / 16 := by
    have : m / 16 ≤ n / 16 := Nat.div_le_div_right (by omega)
    omega
   unfold ltL
   rw [q2, lt_pre]
   exact lt_head (hexD_mono (by omega) (Nat.mod_lt _ (by omega))) _ _
theorem key_c {c d : Nat} (h : c < d) (hd : d < 281474976710656) (i j : Nat) : ltL (keyP c i) (keyP d j) := by
 unfold keyP ltL
 rw [← hexF_P 12 c (by omega) (by omega), ← hexF_P 12 d (by simpa using hd) (by omega), List.append_assoc, List.append_assoc]
 show listLtB ([115] ++ _) ([115] ++ _) = true
 rw [lt_pre]
 exact hexF_lt 12 c d _ _ h (by simpa using hd)
theorem key_i (c : Nat) {i j : Nat} (h : i < j) (hj : j < 256) : ltL (keyP c i) (keyP c j) := by
 unfold keyP ltL
 rw [← hexF_P 2 i (by omega) (by omega), ← hexF_P 2 j (by omega) (by omega)]
 show listLtB ([115] ++ _) ([115] ++ _) = true
 rw [lt_pre]
 show listLtB ((hexP c 12 ++ [45]) ++ hexF i 2) ((hexP c 12 ++ [45]) ++ hexF j 2) = true
 rw [lt_pre]
 have := hexF_lt 2 i j [] [] h (by omega)
 simpa using this
theorem put_mS {k v : List Nat} : ∀ {X : List Kp}, k ∉ X.map (·.1) → mapPut k (.str v) (mS X) = mS (X ++ [(k, v)])
 | [], _ => rfl
 | (a, w) :: X, h => by
  simp only [List.map_cons, List.mem_cons, not_or] at h
  show mapPut k (.str v) ((a, .str w) :: mS X) = (a, .str w) :: mS (X ++ [(k, v)])
  unfold mapPut
  rw [if_neg h.1, put_mS h.2]
theorem outF_mS : ∀ (ps X : List Kp), ((X ++ ps).map (·.1)).Nodup → outF (mS X) ps = mS (X ++ ps)
 | [], X, _ => by rw [List.append_nil]; rfl
 | p :: ps, X, nd => by
  have h1 : p.1 ∉ X.map (·.1) := by
   rw [List.map_append, List.nodup_append] at nd
   exact fun q => nd.2.2 p.1 q p.1 (by simp) rfl
  show outF (mapPut p.1 (.str p.2) (mS X)) ps = _
  rw [put_mS h1]
  have := outF_mS ps (X ++ [p]) (by rw [List.append_assoc]; exact nd)
  rw [List.append_assoc] at this
  exact this
def restP (c i m : Nat) : List Kp := (List.range' i (m - i)).map fun j => (keyP c j, [])
def newP (c : Nat) (s : List Nat) (i : Nat) : List Kp := (List.range i).map fun j => (keyP c j, pieceP s j)
theorem prs_new (c n : Nat) (s : List Nat) : prs (c, n, s) = newP c (textP n s) (cntP (textP n s)) := rfl
theorem outR_keys (c n m : Nat) (s : List Nat) (hn : cntP (textP n s) ≤ 256) (hm : m ≤ 256) : ((newP c (textP n s) (cntP (textP n s)) ++ restP c (cntP (textP n s)) m).map (·.1)).Pairwise ltL := by
 have hkeys : (newP c (textP n s) (cntP (textP n s)) ++ restP c (cntP (textP n s)) m).map (·.1) = (List.range' 0 (max (cntP (textP n s)) m)).map (keyP c) := by
  unfold newP restP
  rw [List.map_append, List.map_map, List.map_map, List.range_eq_range']
  have : max (cntP (textP n s)) m = cntP (textP n s) + (m - cntP (textP n s)):= by omega
  rw [this, ← List.range'_append_1, List.map_append, Nat.zero_add]; rfl
 rw [hkeys, List.pairwise_map]
 have hp : (List.range' 0 (max (cntP (textP n s)) m)).Pairwise (· < ·) := List.pairwise_lt_range'
 refine hp.imp_of_mem fun {a b} ha hb h => ?_
 rw [List.mem_range'_1] at hb
 exact key_i c h (by omega)
end
end Go.Proofs.YtllmfnedkhiomaaGreatDoor.S

namespace Go.Proofs.YtllmfnedkhiomaaGreatDoor.S
open Go Go.AX
noncomputable section
theorem getB_none {c : Nat} : ∀ {L : List Rw}, getB c L = none ↔ c ∉ L.map (·.1)
 | [] => by simp [getB]
 | p :: L => by
  have ih := getB_none (c := c) (L := L)
  unfold getB at ih ⊢
  rw [List.find?_cons, List.map_cons, List.mem_cons, not_or]
  by_cases q : c = p.1
  ·simp [q]
  ·simp only [q, decide_false]; rw [ih]; simp
theorem getB_some {c : Nat} {y : Lst} : ∀ {L : List Rw}, (L.map (·.1)).Nodup → (getB c L = some y ↔ (c, y) ∈ L)
 | [], _ => by simp [getB]
 | p :: L, nd => by
  rw [List.map_cons, List.nodup_cons] at nd
  have ih := getB_some (c := c) (y := y) nd.2
  unfold getB at ih ⊢
  rw [List.find?_cons, List.mem_cons]
  by_cases q : c = p.1
  ·simp only [q, decide_true]
   constructor
   ·intro h; cases h; exact .inl rfl
   ·rintro (h | h)
    ·rw [← h]; rfl
    ·exact absurd (List.mem_map_of_mem (f := (·.1)) h) nd.1
  ·simp only [q, decide_false]
   rw [ih]
   constructor
   ·exact .inr
   ·rintro (h | h)
    ·exact absurd (by rw [← h]) q
    ·exact h
structure Rel (Bk L : List Rw) (i : Nat) : Prop where
 pm : Bk.Perm L
 so : (L.map (·.1)).Pairwise (· < ·)
 ok : ∀ y, y ∈ L → y.1 < 281474976710656 ∧ y.2.1 ≤ i ∧ y.2.2.length ≤ 4000
 len : L.length ≤ 64
theorem Rel.nd {Bk L : List Rw} {i : Nat} (r : Rel Bk L i) : (L.map (·.1)).Nodup := r.so.imp fun h => Nat.ne_of_lt h
theorem Rel.ndB {Bk L : List Rw} {i : Nat} (r : Rel Bk L i) : (Bk.map (·.1)).Nodup := (r.pm.map (·.1)).nodup_iff.2 r.nd
theorem Rel.get {Bk L : List Rw} {i : Nat} (r : Rel Bk L i) (c : Nat) : getB c Bk = getB c L := by
 cases h : getB c L with
 | none =>
  rw [getB_none] at h ⊢
  exact fun q => h ((r.pm.map (·.1)).mem_iff.1 q)
 | some y => rw [getB_some r.nd] at h; rw [getB_some r.ndB]; exact r.pm.mem_iff.2 h
theorem Rel.seen {Bk L : List Rw} {i : Nat} (r : Rel Bk L i) (c n : Nat) : seenE Bk c n = seenE L c n := by
 unfold seenE
 rw [r.get c, r.pm.length_eq]
end
end Go.Proofs.YtllmfnedkhiomaaGreatDoor.S

namespace Go.Proofs.YtllmfnedkhiomaaGreatDoor.S
open Go Go.AX
noncomputable section
set_option maxRecDepth 100000
def hexes : List Nat := [48, 49, 50, 51, 52, 53, 54, 55, 56, 57, 97, 98, 99, 100, 101, 102]
def isHx (c : Nat) : Bool := Nat.ble 48 c && Nat.ble c 57 || Nat.ble 97 c && Nat.ble c 102
def hexA : List AV := (List.range 256).map fun c => .bool (isHx c)
theorem hexA_len : hexA.length = 256:= by unfold hexA; simp
theorem setG : groundAt P noHook 60000 51 [.str hexes] = some (.tuple [.agg hexA, .bool true]):= by kernel_rfl
theorem u100a : P.underlying 101 = some (.array 256 4):= by kernel_rfl
theorem co4 : P.cellsOf 4 = 1:= by kernel_rfl
theorem ok4a : okT P 4 = true:= by kernel_rfl
theorem ia101 (b : Nat) (kd : IntKind) (i : Nat) (hi : i < 256) : indexAddrA P 101 (.ptr b 0) (.int kd (.ofNat i)) = some (.ptr b i) := by
 have hb : Nat.blt i 256 = true:= by rw [Nat.blt_eq]; exact hi
 unfold indexAddrA
 simp only [u100a, hb, ok4a, co4, Bool.true_and, Nat.zero_add, Nat.mul_one]
def SetAt (h : H) (b : Nat) : Prop := ∀ i, i < 256 → cellAt h b i = some (.bool (isHx i))
theorem containsC (h : H) (b c : Nat) (hc : c < 256) (hx : SetAt h b) : PushC P (.enter 74 [.ptr b 0, .int .u8 (.ofNat c)] h) (SaysG h (.bool (isHx c))) := by
 have ia := ia101 b .u8 c hc
 have cc := hx c hc
 refine pushC_of_codeW (fn := Tryz.f74) (c := bodyC Tryz.f74) Tryz.func74 rfl ?_
 show codeW P 74 10 none _ _ _ _ _
 refine codeW_root ?_
 repeat' (first | ((with_reducible refine st1 ?_); (conv => whnf); (with_reducible refine ⟨?_⟩)) | ((with_reducible refine retW_intro rfl ?_); (conv => arg 2; whnf)) | ((with_reducible first | refine iB ?_ ?_ | refine gWt ?_ ?_ | refine gWf ?_ ?_) <;> intro hb <;> (try simp only [hb])) | (simp only [B, F, reduceLT, reduceLeDiff, reduceEqDiff, reduceAdd, reduceMul, reduceSub, ↓reduceIte, eq_self, ia, cc]))
 exact ⟨rfl, Og.refl _ _⟩
theorem ix_str {s : List Nat} {i x : Nat} (hx : s[i]? = some x) (kd : IntKind) : indexA P 9 (.str s) (.int kd (.ofNat i)) = some (.int .u8 (.ofNat x)):= by simp only [indexA, u9a, hx]
def allHx (s : List Nat) : Prop := ∀ c, c ∈ s → isHx c = true
def isBy (s : List Nat) : Prop := ∀ c, c ∈ s → c < 256
structure TrR (h0 : H) (b : Nat) (s : List Nat) (m : Nat) (ds : List Nat) (tm : T AV) (h : H) (r t : List Nat) : Prop where
 ds : ds = []
 nn : m = r.length
 st : s = r ++ t
 ht : allHx t
 t0 : tm.get 0 = some (.str r)
 t1 : tm.get 1 = some (.ptr b 0)
 oo : Og h0 h []
theorem last_split {r : List Nat} {x : Nat} (hi : 0 < r.length) (h : r[r.length - 1]? = some x) : r = r.take (r.length - 1) ++ [x] := by
 have := List.take_append_drop (r.length - 1) r
 rw [List.drop_eq_getElem_cons (by omega), List.drop_eq_nil_of_le (by omega)] at this
 rw [List.getElem?_eq_getElem (by omega)] at h
 cases h
 exact this.symm
theorem trimR (h0 : H) (b : Nat) (s : List Nat) (hs : isBy s) (hz : s.length < 1000000) (hx : SetAt h0 b) (hb : b < h0.nx) : PushC P (.enter 53 [.str s, .ptr b 0] h0) fun v h' => Og h0 h' [] ∧ ∃ r, v = .str r ∧ isBy r ∧ r.length ≤ s.length ∧ (r = [] ∧ allHx s ∨ ¬ allHx r ∧ ¬ allHx s) := by
 have e0 : bytesOf { data := #[] } = [] := rfl
 refine pushC_of_codeW (fn := Tryz.f53) (c := bodyC Tryz.f53) Tryz.func53 rfl ?_
 show codeW P 53 22 none _ _ _ _ _
 refine codeW_root ?_
 repeat' (first | ((with_reducible refine st1 ?_); (conv => whnf); (with_reducible refine ⟨?_⟩)) | ((with_reducible refine retW_intro rfl ?_); (conv => arg 2; whnf)) | ((with_reducible first | refine iB ?_ ?_ | refine gWt ?_ ?_ | refine gWf ?_ ?_) <;> intro hb <;> (try simp only [hb])) | (simp only [B, F, reduceLT, reduceLeDiff, reduceEqDiff, reduceAdd, reduceMul, reduceSub, ↓reduceIte, eq_self, e0]))
 refine st_loop (fun m ds tm h => ∃ r t, TrR h0 b s m ds tm h r t) s.length rfl ⟨s, [], rfl, rfl, by simp, fun c hc => (by cases hc), by simp only [B, F, reduceLT, reduceLeDiff, reduceEqDiff, reduceAdd, reduceMul, reduceSub, ↓reduceIte, eq_self], by simp only [B, F, reduceLT, reduceLeDiff, reduceEqDiff, reduceAdd, reduceMul, reduceSub, ↓reduceIte, eq_self], Og.refl _ _⟩ (fun m ds tm h hI => ?_)
 obtain ⟨r, t, rfl, rfl, hst, ht, t0, t1, oo⟩ := hI
 have hr : isBy r := fun c hc => hs c (by rw [hst]; simp [hc])
 have hrl : r.length ≤ s.length:= by rw [hst]; simp
 by_cases hi : 0 < r.length
 ·have d1 : decide (0 < r.length) = true := decide_eq_true hi
  obtain ⟨x, hx0⟩ : ∃ x, r[r.length - 1]? = some x := ⟨_, List.getElem?_eq_getElem (by omega)⟩
  have hx2 := ix_str hx0 .i64
  have w1 : wrapF .i64 (Int.ofNat r.length - Int.ofNat 1) = Int.ofNat (r.length - 1) := i64_sub (by omega) (by omega)
  have xm : x ∈ r := List.mem_of_getElem? hx0
  have hy : SetAt h b := fun i hi => kc (hx i hi) oo hb (by simp)
  have ch := cut_hi r (r.length - 1) (by omega)
  repeat' (first | ((with_reducible refine st1 ?_); (conv => whnf); (with_reducible refine ⟨?_⟩)) | ((with_reducible refine retW_intro rfl ?_); (conv => arg 2; whnf)) | ((with_reducible first | refine iB ?_ ?_ | refine gWt ?_ ?_ | refine gWf ?_ ?_) <;> intro hb <;> (try simp only [hb])) | (simp only [B, F, reduceLT, reduceLeDiff, reduceEqDiff, reduceAdd, reduceMul, reduceSub, ↓reduceIte, eq_self, t0, t1, d1, w1, hx2]))
  refine ((containsC h b x (hr x xm) hy).call P).mono P ?_
  rintro v h1 ⟨rfl, o1⟩
  cases hq : isHx x with
  | true =>
   repeat' (first | ((with_reducible refine st1 ?_); (conv => whnf); (with_reducible refine ⟨?_⟩)) | ((with_reducible refine retW_intro rfl ?_); (conv => arg 2; whnf)) | ((with_reducible first | refine iB ?_ ?_ | refine gWt ?_ ?_ | refine gWf ?_ ?_) <;> intro hb <;> (try simp only [hb])) | (simp only [B, F, reduceLT, reduceLeDiff, reduceEqDiff, reduceAdd, reduceMul, reduceSub, ↓reduceIte, eq_self, t0, t1, w1, Bool.not_true, @ex_sl_h, ch]))
   have hsp := last_split hi hx0
   refine ⟨r.length - 1, by omega, r.take (r.length - 1), x :: t, rfl, by rw [List.length_take]; omega, ?_, fun c hc => ?_, by simp only [B, F, reduceLT, reduceLeDiff, reduceEqDiff, reduceAdd, reduceMul, reduceSub, ↓reduceIte, eq_self], by simp only [B, F, reduceLT, reduceLeDiff, reduceEqDiff, reduceAdd, reduceMul, reduceSub, ↓reduceIte, eq_self, t1], oo.t o1⟩
   ·rw [hst]; conv => lhs; rw [hsp]
    simp
   rcases List.mem_cons.1 hc with rfl | hc
   ·exact hq
   ·exact ht c hc
  | false =>
   repeat' (first | ((with_reducible refine st1 ?_); (conv => whnf); (with_reducible refine ⟨?_⟩)) | ((with_reducible refine retW_intro rfl ?_); (conv => arg 2; whnf)) | ((with_reducible first | refine iB ?_ ?_ | refine gWt ?_ ?_ | refine gWf ?_ ?_) <;> intro hb <;> (try simp only [hb])) | (simp only [B, F, reduceLT, reduceLeDiff, reduceEqDiff, reduceAdd, reduceMul, reduceSub, ↓reduceIte, eq_self, t0, t1, w1, Bool.not_false]))
   refine ⟨oo.t o1, r, rfl, hr, hrl, .inr ⟨fun q => ?_, fun q => ?_⟩⟩
   ·rw [q x xm] at hq; cases hq
   ·rw [q x (by rw [hst]; simp [xm])] at hq; cases hq
 ·have d1 : decide (0 < r.length) = false := decide_eq_false hi
  obtain rfl : r = [] := List.length_eq_zero_iff.1 (by omega)
  repeat' (first | ((with_reducible refine st1 ?_); (conv => whnf); (with_reducible refine ⟨?_⟩)) | ((with_reducible refine retW_intro rfl ?_); (conv => arg 2; whnf)) | ((with_reducible first | refine iB ?_ ?_ | refine gWt ?_ ?_ | refine gWf ?_ ?_) <;> intro hb <;> (try simp only [hb])) | (simp only [B, F, reduceLT, reduceLeDiff, reduceEqDiff, reduceAdd, reduceMul, reduceSub, ↓reduceIte, eq_self, t0, t1, d1]))
  refine ⟨oo, [], rfl, hr, hrl, .inl ⟨rfl, ?_⟩⟩
  rw [hst]; exact ht
structure TrL (h0 : H) (b : Nat) (s : List Nat) (m : Nat) (ds : List Nat) (tm : T AV) (h : H) (r t : List Nat) : Prop where
 ds : ds = []
 nn : m = r.length
 st : s = t ++ r
 ht : allHx t
 t0 : tm.get 0 = some (.str r)
 t1 : tm.get 1 = some (.ptr b 0)
 oo : Og h0 h []
theorem trimL (h0 : H) (b : Nat) (s : List Nat) (hs : isBy s) (hz : s.length < 1000000) (hx : SetAt h0 b) (hb : b < h0.nx) : PushC P (.enter 52 [.str s, .ptr b 0] h0) fun v h' => Og h0 h' [] ∧ ∃ r, v = .str r ∧ (r = [] ↔ allHx s) := by
 have e0 : bytesOf { data := #[] } = [] := rfl
 refine pushC_of_codeW (fn := Tryz.f52) (c := bodyC Tryz.f52) Tryz.func52 rfl ?_
 show codeW P 52 16 none _ _ _ _ _
 refine codeW_root ?_
 repeat' (first | ((with_reducible refine st1 ?_); (conv => whnf); (with_reducible refine ⟨?_⟩)) | ((with_reducible refine retW_intro rfl ?_); (conv => arg 2; whnf)) | ((with_reducible first | refine iB ?_ ?_ | refine gWt ?_ ?_ | refine gWf ?_ ?_) <;> intro hb <;> (try simp only [hb])) | (simp only [B, F, reduceLT, reduceLeDiff, reduceEqDiff, reduceAdd, reduceMul, reduceSub, ↓reduceIte, eq_self, e0]))
 refine st_loop (fun m ds tm h => ∃ r t, TrL h0 b s m ds tm h r t) s.length rfl ⟨s, [], rfl, rfl, by simp, fun c hc => (by cases hc), by simp only [B, F, reduceLT, reduceLeDiff, reduceEqDiff, reduceAdd, reduceMul, reduceSub, ↓reduceIte, eq_self], by simp only [B, F, reduceLT, reduceLeDiff, reduceEqDiff, reduceAdd, reduceMul, reduceSub, ↓reduceIte, eq_self], Og.refl _ _⟩ (fun m ds tm h hI => ?_)
 obtain ⟨r, t, rfl, rfl, hst, ht, t0, t1, oo⟩ := hI
 have hr : isBy r := fun c hc => hs c (by rw [hst]; simp [hc])
 by_cases hi : 0 < r.length
 ·have d1 : decide (0 < r.length) = true := decide_eq_true hi
  obtain ⟨x, hx0⟩ : ∃ x, r[0]? = some x := ⟨_, List.getElem?_eq_getElem hi⟩
  have hx2 := ix_str hx0 .i64
  have xm : x ∈ r := List.mem_of_getElem? hx0
  have hy : SetAt h b := fun i hi => kc (hx i hi) oo hb (by simp)
  have cl := cut_lo r 1 (by omega)
  repeat' (first | ((with_reducible refine st1 ?_); (conv => whnf); (with_reducible refine ⟨?_⟩)) | ((with_reducible refine retW_intro rfl ?_); (conv => arg 2; whnf)) | ((with_reducible first | refine iB ?_ ?_ | refine gWt ?_ ?_ | refine gWf ?_ ?_) <;> intro hb <;> (try simp only [hb])) | (simp only [B, F, reduceLT, reduceLeDiff, reduceEqDiff, reduceAdd, reduceMul, reduceSub, ↓reduceIte, eq_self, t0, t1, d1, hx2]))
  refine ((containsC h b x (hr x xm) hy).call P).mono P ?_
  rintro v h1 ⟨rfl, o1⟩
  cases hq : isHx x with
  | true =>
   repeat' (first | ((with_reducible refine st1 ?_); (conv => whnf); (with_reducible refine ⟨?_⟩)) | ((with_reducible refine retW_intro rfl ?_); (conv => arg 2; whnf)) | ((with_reducible first | refine iB ?_ ?_ | refine gWt ?_ ?_ | refine gWf ?_ ?_) <;> intro hb <;> (try simp only [hb])) | (simp only [B, F, reduceLT, reduceLeDiff, reduceEqDiff, reduceAdd, reduceMul, reduceSub, ↓reduceIte, eq_self, t0, t1, Bool.not_true, @ex_sl_l, cl]))
   have hsp : r = x :: r.drop 1 := by
    cases r with
    | nil => cases hx0
    | cons y r => simp at hx0; simp [hx0]
   refine ⟨r.length - 1, by omega, r.drop 1, t ++ [x], rfl, by rw [List.length_drop], ?_, fun c hc => ?_, by simp only [B, F, reduceLT, reduceLeDiff, reduceEqDiff, reduceAdd, reduceMul, reduceSub, ↓reduceIte, eq_self], by simp only [B, F, reduceLT, reduceLeDiff, reduceEqDiff, reduceAdd, reduceMul, reduceSub, ↓reduceIte, eq_self, t1], oo.t o1⟩
   ·rw [hst]; conv => lhs; rw [hsp]
    simp
   rcases List.mem_append.1 hc with hc | hc
   ·exact ht c hc
   ·rw [List.mem_singleton] at hc; subst hc; exact hq
  | false =>
   repeat' (first | ((with_reducible refine st1 ?_); (conv => whnf); (with_reducible refine ⟨?_⟩)) | ((with_reducible refine retW_intro rfl ?_); (conv => arg 2; whnf)) | ((with_reducible first | refine iB ?_ ?_ | refine gWt ?_ ?_ | refine gWf ?_ ?_) <;> intro hb <;> (try simp only [hb])) | (simp only [B, F, reduceLT, reduceLeDiff, reduceEqDiff, reduceAdd, reduceMul, reduceSub, ↓reduceIte, eq_self, t0, t1, Bool.not_false]))
   refine ⟨oo.t o1, r, rfl, ⟨fun q => (by rw [q] at hi; simp at hi), fun q => ?_⟩⟩
   rw [q x (by rw [hst]; simp [xm])] at hq; cases hq
 ·have d1 : decide (0 < r.length) = false := decide_eq_false hi
  obtain rfl : r = [] := List.length_eq_zero_iff.1 (by omega)
  repeat' (first | ((with_reducible refine st1 ?_); (conv => whnf); (with_reducible refine ⟨?_⟩)) | ((with_reducible refine retW_intro rfl ?_); (conv => arg 2; whnf)) | ((with_reducible first | refine iB ?_ ?_ | refine gWt ?_ ?_ | refine gWf ?_ ?_) <;> intro hb <;> (try simp only [hb])) | (simp only [B, F, reduceLT, reduceLeDiff, reduceEqDiff, reduceAdd, reduceMul, reduceSub, ↓reduceIte, eq_self, t0, t1, d1]))
  refine ⟨oo, [], rfl, fun _ => ?_, fun _ => rfl⟩
  rw [hst]; simpa using ht
theorem hasAll_of {h : H} {b : Nat} : ∀ (k o : Nat), (∀ j, j < k → ∃ v, cellAt h b (o + j) = some v) → hasAll h b o k = true
 | 0, _, _ => rfl
 | k + 1, o, hc => by
  obtain ⟨v, hv⟩ := hc 0 (by omega)
  rw [hasAll_succ, show cellAt h b o = some v from hv, hasAll_of k (o + 1) (fun j hj => by obtain ⟨w, hw⟩ := hc (j + 1) (by omega); exact ⟨w, by rw [show o + 1 + j = o + (j + 1) by omega]; exact hw⟩)]
  rfl
theorem hexA_one : allOne hexA = true:= by kernel_rfl
theorem storeHex (h0 : H) (zs : List AV) (hz : zs.length = 256) : storeV P (h0.newCells 101 zs) 101 h0.nx 0 (.agg hexA) = some ((h0.newCells 101 zs).sts h0.nx 0 hexA) := by
 rw [st101 _ _ hexA_len]
 refine put_sts ?_ ?_ hexA_one (by rfl)
 ·rw [wrAt_new, if_pos rfl]
 ·rw [hexA_len]
  refine hasAll_of _ _ (fun j hj => ?_)
  rw [cellAt_new, if_pos rfl, Nat.zero_add, List.getElem?_eq_getElem (by omega)]
  exact ⟨_, rfl⟩
theorem setHex (h0 : H) (zs : List AV) (hz : zs.length = 256) : SetAt ((h0.newCells 101 zs).sts h0.nx 0 hexA) h0.nx := by
 intro i hi
 rw [cellAt_sts (by rw [wrAt_new, if_pos rfl]), if_pos ⟨rfl, Nat.zero_le _, by rw [hexA_len]; omega⟩]
 unfold hexA
 rw [Nat.sub_zero, List.getElem?_map, List.getElem?_range hi]; rfl
theorem trimC (h0 : H) (s : List Nat) (hs : isBy s) (hz : s.length < 1000000) : PushC P (.enter 32 [.str s, .str hexes] h0) fun v h' => Og h0 h' [] ∧ ∃ r, v = .str r ∧ (r = [] ↔ allHx s) := by
 have e0 : bytesOf { data := #[] } = [] := rfl
 by_cases q : s = []
 ·have d1 : decide (s = []) = true := decide_eq_true q
  refine pushC_of_codeW (fn := Tryz.f32) (c := bodyC Tryz.f32) Tryz.func32 rfl ?_
  show codeW P 32 43 none _ _ _ _ _
  refine codeW_root ?_
  repeat' (first | ((with_reducible refine st1 ?_); (conv => whnf); (with_reducible refine ⟨?_⟩)) | ((with_reducible refine retW_intro rfl ?_); (conv => arg 2; whnf)) | ((with_reducible first | refine iB ?_ ?_ | refine gWt ?_ ?_ | refine gWf ?_ ?_) <;> intro hb <;> (try simp only [hb])) | (simp only [B, xB, F, reduceLT, reduceLeDiff, reduceEqDiff, reduceAdd, reduceMul, reduceSub, ↓reduceIte, eq_self, e0, d1]))
  subst q
  exact ⟨Og.refl _ _, [], rfl, fun _ c hc => (by cases hc), fun _ => rfl⟩
 have d1 : decide (s = []) = false := decide_eq_false q
 have d2 : decide (hexes = []) = false := rfl
 have d3 : decide (hexes.length = 1) = false := rfl
 refine pushC_of_codeW (fn := Tryz.f32) (c := bodyC Tryz.f32) Tryz.func32 rfl ?_
 show codeW P 32 43 none _ _ _ _ _
 refine codeW_root ?_
 repeat' (first | ((with_reducible refine st1 ?_); (conv => whnf); (with_reducible refine ⟨?_⟩)) | ((with_reducible refine retW_intro rfl ?_); (conv => arg 2; whnf)) | ((with_reducible first | refine iB ?_ ?_ | refine gWt ?_ ?_ | refine gWf ?_ ?_) <;> intro hb <;> (try simp only [hb])) | (simp only [B, xB, F, reduceLT, reduceLeDiff, reduceEqDiff, reduceAdd, reduceMul, reduceSub, ↓reduceIte, eq_self, e0, d1, d2, d3]))
 refine callC_closedA setG ?_
 have hst := storeHex h0
 have hse := setHex h0
 repeat' (first | ((with_reducible refine st1 ?_); (conv => whnf); (with_reducible refine ⟨?_⟩)) | ((with_reducible refine retW_intro rfl ?_); (conv => arg 2; whnf)) | ((with_reducible first | refine iB ?_ ?_ | refine gWt ?_ ?_ | refine gWf ?_ ?_) <;> intro hb <;> (try simp only [hb])) | (simp only [B, xB, F, reduceLT, reduceLeDiff, reduceEqDiff, reduceAdd, reduceMul, reduceSub, ↓reduceIte, eq_self, e0, hst]))
 refine ((trimR _ h0.nx s hs hz (hse _ rfl) (by rw [nx_sts, nx_new]; omega)).call P).mono P ?_
 rintro v h1 ⟨o1, r, rfl, hrb, hrl, hr⟩
 have o01 : Og h0 h1 [] := (((Og.refl h0 []).new _ _).sts (.inr (Nat.le_refl _))).t o1
 have hx1 : h0.nx < h1.nx:= by have := o1.1.1; rw [nx_sts, nx_new] at this; omega
 have hs1 : SetAt h1 h0.nx := fun i hi => kc (hse _ rfl i hi) o1 (by rw [nx_sts, nx_new]; omega) (by simp)
 clear o1
 repeat' (first | ((with_reducible refine st1 ?_); (conv => whnf); (with_reducible refine ⟨?_⟩)) | ((with_reducible refine retW_intro rfl ?_); (conv => arg 2; whnf)) | ((with_reducible first | refine iB ?_ ?_ | refine gWt ?_ ?_ | refine gWf ?_ ?_) <;> intro hb <;> (try simp only [hb])) | (simp only [B, xB, F, reduceLT, reduceLeDiff, reduceEqDiff, reduceAdd, reduceMul, reduceSub, ↓reduceIte, eq_self, e0]))
 refine ((trimL _ h0.nx r hrb (by omega) hs1 hx1).call P).mono P ?_
 rintro v h2 ⟨o2, r2, rfl, hr2⟩
 repeat' (first | ((with_reducible refine st1 ?_); (conv => whnf); (with_reducible refine ⟨?_⟩)) | ((with_reducible refine retW_intro rfl ?_); (conv => arg 2; whnf)) | ((with_reducible first | refine iB ?_ ?_ | refine gWt ?_ ?_ | refine gWf ?_ ?_) <;> intro hb <;> (try simp only [hb])) | (simp only [B, xB, F, reduceLT, reduceLeDiff, reduceEqDiff, reduceAdd, reduceMul, reduceSub, ↓reduceIte, eq_self, e0]))
 refine ⟨o01.t o2, r2, rfl, ?_⟩
 rw [hr2]
 rcases hr with ⟨rfl, q2⟩ | ⟨q1, q2⟩
 ·exact ⟨fun _ => q2, fun _ c hc => (by cases hc)⟩
 ·exact ⟨fun x => absurd x q1, fun x => absurd x q2⟩
end
end Go.Proofs.YtllmfnedkhiomaaGreatDoor.S

namespace Go.Proofs.YtllmfnedkhiomaaGreatDoor.S
open Go Go.AX
noncomputable section
set_option maxRecDepth 100000
def hv (c : Nat) : Nat := if c < 58 then c - 48 else c - 87
def numX (s : List Nat) : Nat := s.foldl (fun n c => n * 16 + hv c) 0
theorem isHx_iff {c : Nat} : isHx c = true ↔ 48 ≤ c ∧ c ≤ 57 ∨ 97 ≤ c ∧ c ≤ 102 := by
 unfold isHx
 simp [Nat.ble_eq]
theorem hv_lt {c : Nat} (h : isHx c = true) : hv c < 16 := by
 rw [isHx_iff] at h
 unfold hv; split <;> omega
theorem numX_s {s : List Nat} {i x : Nat} (h : s[i]? = some x) : numX (s.take (i + 1)) = numX (s.take i) * 16 + hv x := by
 unfold numX
 rw [List.take_add_one, h, List.foldl_append]; rfl
theorem numX_lt : ∀ (s : List Nat), allHx s → numX s < 16 ^ s.length := by
 intro s
 have key : ∀ (s : List Nat) (a k : Nat), allHx s → a < 16 ^ k → s.foldl (fun n c => n * 16 + hv c) a < 16 ^ (k + s.length) := by
  intro s
  induction s with
  | nil => intro a k _ h; exact h
  | cons c s ih =>
   intro a k hs ha
   have hc := hv_lt (hs c (by simp))
   have := ih (a * 16 + hv c) (k + 1) (fun d hd => hs d (by simp [hd])) (by rw [Nat.pow_succ]; omega)
   rw [List.length_cons, show k + (s.length + 1) = k + 1 + s.length by omega]
   exact this
 intro hs
 have := key s 0 0 hs (by simp)
 rwa [Nat.zero_add] at this
section
variable {h : H} {t : TypeId} {x y : Operand}
theorem b_or (k : IntKind) (m n : Int) : binR P h .or t x y (.int k m) (.int k n) = .val (.int k (wrapF k (.ofNat (Nat.lor (low k m) (low k n))))) h:= by simp only [binR, apartA, binA, eqB_self, intB, optV, forceInt_eq]
theorem b_shl (k j : IntKind) (m : Int) (n : Nat) : binR P h .shl t x y (.int k m) (.int j (.ofNat n)) = .val (.int k (wrapF k (m * Int.ofNat (2 ^ min n k.bits)))) h:= by simp only [binR, apartA, binA, shiftB, optV, forceInt_eq]
end
theorem low97 {c : Nat} (h1 : 97 ≤ c) (h2 : c ≤ 102) : wrapF .u8 (.ofNat (Nat.lor (low .u8 (.ofNat c)) (low .u8 (.ofNat 32)))) = .ofNat c := by
 obtain rfl | rfl | rfl | rfl | rfl | rfl : c = 97 ∨ c = 98 ∨ c = 99 ∨ c = 100 ∨ c = 101 ∨ c = 102:= by omega
 all_goals kernel_rfl
theorem lowerC (h : H) {c : Nat} (h1 : 97 ≤ c) (h2 : c ≤ 102) : PushC P (.enter 78 [.int .u8 (.ofNat c)] h) (SaysG h (.int .u8 (.ofNat c))) := by
 have e1 := low97 h1 h2
 refine pushC_of_codeW (fn := Tryz.f78) (c := bodyC Tryz.f78) Tryz.func78 rfl ?_
 show codeW P 78 5 none _ _ _ _ _
 refine codeW_root ?_
 repeat' (first | ((with_reducible refine st1 ?_); (conv => whnf); (with_reducible refine ⟨?_⟩)) | ((with_reducible refine retW_intro rfl ?_); (conv => arg 2; whnf)) | ((with_reducible first | refine iB ?_ ?_ | refine gWt ?_ ?_ | refine gWf ?_ ?_) <;> intro hb <;> (try simp only [hb])) | (simp only [B, F, reduceLT, reduceLeDiff, reduceEqDiff, reduceAdd, reduceMul, reduceSub, ↓reduceIte, eq_self, @b_or, e1]))
 exact ⟨rfl, Og.refl _ _⟩
theorem conv_str (h : H) (s : List Nat) (hs : s.length < 1000000) : ∃ h', convR P 9 37 (.str s) h = .val (.slice h.nx 0 s.length (.opn 0)) h' ∧ Og h h' [] ∧ h'.nx = h.nx + 1 ∧ ∀ j c, s[j]? = some c → cellAt h' h.nx j = some (.int .u8 (.ofNat c)) := by
 refine ⟨h.grown none ⟨1, 5 + 1⟩ (s.map fun b => .int .u8 (Int.ofNat b)), ?_, ⟨grown_only, rfl⟩, grownL_nx _ _ _ _, fun j c hc => ?_⟩
 ·unfold convR
  simp only [u75a, u9a]
  unfold convertA
  have u5a : P.underlying 5 = some (.int .u8):= by kernel_rfl
  have hsm : small s.length = true := Nat.ble_eq_true_of_le (by omega)
  simp only [u75a, u9a, u5a, lenL_eq, hsm]
 ·unfold cellAt
  rw [grown_none, if_pos rfl]
  simp only [T.get_ofRow, List.getElem?_map, hc, Option.map_some]
structure PxI (h0 : H) (b : Nat) (s : List Nat) (m : Nat) (ds : List Nat) (tm : T AV) (h : H) (i : Nat) : Prop where
 ds : ds = []
 nn : m = s.length - i
 ii : i ≤ s.length
 t0 : tm.get 0 = some (.str s)
 t1 : tm.get 1 = some (.int .i64 (.ofNat 16))
 t8 : tm.get 8 = some (.bool false)
 t9 : tm.get 9 = some (.str s)
 t10 : tm.get 10 = some (.int .u64 (.ofNat 1152921504606846976))
 t11 : tm.get 11 = some (.int .u64 (.ofNat 18446744073709551615))
 t12 : tm.get 12 = some (.bool false)
 t13 : tm.get 13 = some (.int .u64 (.ofNat (numX (s.take i))))
 t99 : tm.get 99 = some (.slice b 0 s.length (.opn 0))
 t100 : tm.get 100 = some (.int .i64 (.ofNat s.length))
 t101 : tm.get 101 = some (.int .i64 (.ofNat i))
 oo : Og h0 h []
set_option maxHeartbeats 4000000 in
theorem parse0 (h0 : H) (s : List Nat) (hs : allHx s) (hz : s.length ≤ 15) (hp : 0 < s.length) : PushC P (.enter 56 [.str s, .int .i64 (.ofNat 16), .int .i64 (.ofNat 64)] h0) (SaysG h0 (.tuple [.int .u64 (.ofNat (numX s)), .nilIface])) := by
 have e0 : bytesOf { data := #[] } = [] := rfl
 have d0 : decide (s = []) = false := decide_eq_false (fun e => by rw [e] at hp; simp at hp)
 have w1 : wrapF .u64 (Int.ofNat 1 * Int.ofNat (2 ^ min 64 IntKind.u64.bits)) = .ofNat 0:= by kernel_rfl
 have w2 : wrapF .u64 (Int.ofNat 64) = .ofNat 64:= by kernel_rfl
 have w3 : wrapF .u64 (Int.ofNat 0 - Int.ofNat 1) = .ofNat 18446744073709551615:= by kernel_rfl
 obtain ⟨h1, hcv, o1, x1, c1⟩ := conv_str h0 s (by omega)
 refine pushC_of_codeW (fn := Tryz.f56) (c := bodyC Tryz.f56) Tryz.func56 rfl ?_
 show codeW P 56 172 none _ _ _ _ _
 refine codeW_root ?_
 repeat' (first | ((with_reducible refine st1 ?_); (conv => whnf); (with_reducible refine ⟨?_⟩)) | ((with_reducible refine retW_intro rfl ?_); (conv => arg 2; whnf)) | ((with_reducible first | refine iB ?_ ?_ | refine gWt ?_ ?_ | refine gWf ?_ ?_) <;> intro hb <;> (try simp only [hb])) | (simp only [B, F, reduceLT, reduceLeDiff, reduceEqDiff, reduceAdd, reduceMul, reduceSub, ↓reduceIte, eq_self, e0, d0, @b_shl, w1, w2, w3, hcv]))
 refine st_loop (fun m ds tm h => ∃ i, PxI h1 h0.nx s m ds tm h i) s.length rfl ⟨0, rfl, rfl, Nat.zero_le _, by simp only [B, F, reduceLT, reduceLeDiff, reduceEqDiff, reduceAdd, reduceMul, reduceSub, ↓reduceIte, eq_self], by simp only [B, F, reduceLT, reduceLeDiff, reduceEqDiff, reduceAdd, reduceMul, reduceSub, ↓reduceIte, eq_self], by simp only [B, F, reduceLT, reduceLeDiff, reduceEqDiff, reduceAdd, reduceMul, reduceSub, ↓reduceIte, eq_self], by simp only [B, F, reduceLT, reduceLeDiff, reduceEqDiff, reduceAdd, reduceMul, reduceSub, ↓reduceIte, eq_self], by simp only [B, F, reduceLT, reduceLeDiff, reduceEqDiff, reduceAdd, reduceMul, reduceSub, ↓reduceIte, eq_self], by simp only [B, F, reduceLT, reduceLeDiff, reduceEqDiff, reduceAdd, reduceMul, reduceSub, ↓reduceIte, eq_self], by simp only [B, F, reduceLT, reduceLeDiff, reduceEqDiff, reduceAdd, reduceMul, reduceSub, ↓reduceIte, eq_self], by simp only [B, F, reduceLT, reduceLeDiff, reduceEqDiff, reduceAdd, reduceMul, reduceSub, ↓reduceIte, eq_self]; rfl, by simp only [B, F, reduceLT, reduceLeDiff, reduceEqDiff, reduceAdd, reduceMul, reduceSub, ↓reduceIte, eq_self], by simp only [B, F, reduceLT, reduceLeDiff, reduceEqDiff, reduceAdd, reduceMul, reduceSub, ↓reduceIte, eq_self], by simp only [B, F, reduceLT, reduceLeDiff, reduceEqDiff, reduceAdd, reduceMul, reduceSub, ↓reduceIte, eq_self], Og.refl _ _⟩ (fun m ds tm h hI => ?_)
 obtain ⟨i, rfl, rfl, ii, t0, t1, t8, t9, t10, t11, t12, t13, t99, t100, t101, oo⟩ := hI
 by_cases hi : i < s.length
 ·have d1 : decide (i < s.length) = true := decide_eq_true hi
  have lt1 : (i < s.length) = True:= by simp [hi]
  obtain ⟨x, hx⟩ : ∃ x, s[i]? = some x := ⟨_, List.getElem?_eq_getElem hi⟩
  have hxs := hs x (List.mem_of_getElem? hx)
  have hq := isHx_iff.1 hxs
  have cx := kc (c1 i x hx) oo (by omega) (by simp)
  have hsn := numX_s hx
  obtain ⟨n, hn⟩ : ∃ n, n = numX (s.take i) := ⟨_, rfl⟩
  rw [← hn] at t13 hsn
  have hlt : n < 16 ^ 14 := by
   rw [hn]
   have := numX_lt (s.take i) (fun c hc => hs c (List.mem_of_mem_take hc))
   refine Nat.lt_of_lt_of_le this (Nat.pow_le_pow_right (by omega) ?_)
   rw [List.length_take]; omega
  have h14 : (16 : Nat) ^ 14 = 72057594037927936:= by decide
  rw [h14] at hlt
  have hvl := hv_lt hxs
  have d95 : decide (x = 95) = false := decide_eq_false (by omega)
  have d48 : decide (48 ≤ x) = true := decide_eq_true (by omega)
  have dhv : decide (16 ≤ hv x) = false := decide_eq_false (by omega)
  have dcut : decide (1152921504606846976 ≤ n) = false := decide_eq_false (by omega)
  have w16 : wrapF .u8 (Int.ofNat 16) = Int.ofNat 16:= by kernel_rfl
  have w16b : wrapF .u64 (Int.ofNat 16) = Int.ofNat 16:= by kernel_rfl
  have wm : wrapF .u64 (Int.ofNat n * Int.ofNat 16) = Int.ofNat (n * 16) := by
   have : Int.ofNat n * Int.ofNat 16 = Int.ofNat (n * 16) := rfl
   rw [this]; exact u64_nat (by omega)
  have wv : wrapF .u64 (Int.ofNat (hv x)) = Int.ofNat (hv x) := u64_nat (by omega)
  have wa : wrapF .u64 (Int.ofNat (n * 16) + Int.ofNat (hv x)) = Int.ofNat (n * 16 + hv x) := u64_add (by omega)
  have dl : decide (n * 16 + hv x < n * 16) = false := decide_eq_false (by omega)
  have dg : decide (18446744073709551615 < n * 16 + hv x) = false := decide_eq_false (by omega)
  have wi : wrapF .i64 (Int.ofNat i + Int.ofNat 1) = Int.ofNat (i + 1) := i64_add (by omega)
  by_cases h57 : x ≤ 57
  ·have d57 : decide (x ≤ 57) = true := decide_eq_true h57
   have wd : wrapF .u8 (Int.ofNat x - Int.ofNat 48) = Int.ofNat (hv x) := by
    have : Int.ofNat x - Int.ofNat 48 = Int.ofNat (hv x) := by
     show (x : Int) - 48 = ((hv x : Nat) : Int)
     unfold hv; rw [if_pos (by omega)]; omega
    rw [this, u8_mod, Nat.mod_eq_of_lt (by omega)]
   repeat' (first | ((with_reducible refine st1 ?_); (conv => whnf); (with_reducible refine ⟨?_⟩)) | ((with_reducible refine retW_intro rfl ?_); (conv => arg 2; whnf)) | ((with_reducible first | refine iB ?_ ?_ | refine gWt ?_ ?_ | refine gWf ?_ ?_) <;> intro hb <;> (try simp only [hb])) | (simp only [B, F, reduceLT, reduceLeDiff, reduceEqDiff, reduceAdd, reduceMul, reduceSub, ↓reduceIte, eq_self, t0, t1, t8, t9, t10, t11, t12, t13, t99, t100, t101, d1, lt1, Nat.mul_one, cx, d95, d48, d57, wd, dhv, dcut, w16, w16b, wm, wv, wa, dl, dg, wi]))
   refine ⟨s.length - (i + 1), by omega, i + 1, rfl, rfl, by omega, by simp only [B, F, reduceLT, reduceLeDiff, reduceEqDiff, reduceAdd, reduceMul, reduceSub, ↓reduceIte, eq_self, t0], by simp only [B, F, reduceLT, reduceLeDiff, reduceEqDiff, reduceAdd, reduceMul, reduceSub, ↓reduceIte, eq_self, t1], by simp only [B, F, reduceLT, reduceLeDiff, reduceEqDiff, reduceAdd, reduceMul, reduceSub, ↓reduceIte, eq_self, t8], by simp only [B, F, reduceLT, reduceLeDiff, reduceEqDiff, reduceAdd, reduceMul, reduceSub, ↓reduceIte, eq_self, t9], by simp only [B, F, reduceLT, reduceLeDiff, reduceEqDiff, reduceAdd, reduceMul, reduceSub, ↓reduceIte, eq_self, t10], by simp only [B, F, reduceLT, reduceLeDiff, reduceEqDiff, reduceAdd, reduceMul, reduceSub, ↓reduceIte, eq_self, t11], by simp only [B, F, reduceLT, reduceLeDiff, reduceEqDiff, reduceAdd, reduceMul, reduceSub, ↓reduceIte, eq_self, t12], by rw [hsn]; simp only [B, F, reduceLT, reduceLeDiff, reduceEqDiff, reduceAdd, reduceMul, reduceSub, ↓reduceIte, eq_self], by simp only [B, F, reduceLT, reduceLeDiff, reduceEqDiff, reduceAdd, reduceMul, reduceSub, ↓reduceIte, eq_self, t99], by simp only [B, F, reduceLT, reduceLeDiff, reduceEqDiff, reduceAdd, reduceMul, reduceSub, ↓reduceIte, eq_self, t100], by simp only [B, F, reduceLT, reduceLeDiff, reduceEqDiff, reduceAdd, reduceMul, reduceSub, ↓reduceIte, eq_self], oo⟩
  ·have d57 : decide (x ≤ 57) = false := decide_eq_false h57
   have d97 : decide (97 ≤ x) = true := decide_eq_true (by omega)
   have d122 : decide (x ≤ 122) = true := decide_eq_true (by omega)
   have wd : wrapF .u8 (Int.ofNat x - Int.ofNat 97) = Int.ofNat (x - 97) := by
    have : Int.ofNat x - Int.ofNat 97 = Int.ofNat (x - 97) := by
     show (x : Int) - 97 = ((x - 97 : Nat) : Int)
     omega
    rw [this, u8_mod, Nat.mod_eq_of_lt (by omega)]
   have we : wrapF .u8 (Int.ofNat (x - 97) + Int.ofNat 10) = Int.ofNat (hv x) := by
    have : Int.ofNat (x - 97) + Int.ofNat 10 = Int.ofNat (hv x) := by
     show ((x - 97 : Nat) : Int) + 10 = ((hv x : Nat) : Int)
     unfold hv; rw [if_neg (by omega)]; omega
    rw [this, u8_mod, Nat.mod_eq_of_lt (by omega)]
   repeat' (first | ((with_reducible refine st1 ?_); (conv => whnf); (with_reducible refine ⟨?_⟩)) | ((with_reducible refine retW_intro rfl ?_); (conv => arg 2; whnf)) | ((with_reducible first | refine iB ?_ ?_ | refine gWt ?_ ?_ | refine gWf ?_ ?_) <;> intro hb <;> (try simp only [hb])) | (simp only [B, F, reduceLT, reduceLeDiff, reduceEqDiff, reduceAdd, reduceMul, reduceSub, ↓reduceIte, eq_self, t0, t1, t8, t9, t10, t11, t12, t13, t99, t100, t101, d1, lt1, Nat.mul_one, cx, d95, d48, d57, wd]))
   refine ((lowerC _ (c := x) (by omega) (by omega)).call P).mono P ?_
   rintro v h2 ⟨rfl, o2⟩
   repeat' (first | ((with_reducible refine st1 ?_); (conv => whnf); (with_reducible refine ⟨?_⟩)) | ((with_reducible refine retW_intro rfl ?_); (conv => arg 2; whnf)) | ((with_reducible first | refine iB ?_ ?_ | refine gWt ?_ ?_ | refine gWf ?_ ?_) <;> intro hb <;> (try simp only [hb])) | (simp only [B, F, reduceLT, reduceLeDiff, reduceEqDiff, reduceAdd, reduceMul, reduceSub, ↓reduceIte, eq_self, t0, t1, t8, t9, t10, t11, t12, t13, t99, t100, t101, d97]))
   refine ((lowerC _ (c := x) (by omega) (by omega)).call P).mono P ?_
   rintro v h3 ⟨rfl, o3⟩
   repeat' (first | ((with_reducible refine st1 ?_); (conv => whnf); (with_reducible refine ⟨?_⟩)) | ((with_reducible refine retW_intro rfl ?_); (conv => arg 2; whnf)) | ((with_reducible first | refine iB ?_ ?_ | refine gWt ?_ ?_ | refine gWf ?_ ?_) <;> intro hb <;> (try simp only [hb])) | (simp only [B, F, reduceLT, reduceLeDiff, reduceEqDiff, reduceAdd, reduceMul, reduceSub, ↓reduceIte, eq_self, t0, t1, t8, t9, t10, t11, t12, t13, t99, t100, t101, d122]))
   refine ((lowerC _ (c := x) (by omega) (by omega)).call P).mono P ?_
   rintro v h4 ⟨rfl, o4⟩
   repeat' (first | ((with_reducible refine st1 ?_); (conv => whnf); (with_reducible refine ⟨?_⟩)) | ((with_reducible refine retW_intro rfl ?_); (conv => arg 2; whnf)) | ((with_reducible first | refine iB ?_ ?_ | refine gWt ?_ ?_ | refine gWf ?_ ?_) <;> intro hb <;> (try simp only [hb])) | (simp only [B, F, reduceLT, reduceLeDiff, reduceEqDiff, reduceAdd, reduceMul, reduceSub, ↓reduceIte, eq_self, t0, t1, t8, t9, t10, t11, t12, t13, t99, t100, t101, wd, we, dhv, dcut, w16, w16b, wm, wv, wa, dl, dg, wi]))
   refine ⟨s.length - (i + 1), by omega, i + 1, rfl, rfl, by omega, by simp only [B, F, reduceLT, reduceLeDiff, reduceEqDiff, reduceAdd, reduceMul, reduceSub, ↓reduceIte, eq_self, t0], by simp only [B, F, reduceLT, reduceLeDiff, reduceEqDiff, reduceAdd, reduceMul, reduceSub, ↓reduceIte, eq_self, t1], by simp only [B, F, reduceLT, reduceLeDiff, reduceEqDiff, reduceAdd, reduceMul, reduceSub, ↓reduceIte, eq_self, t8], by simp only [B, F, reduceLT, reduceLeDiff, reduceEqDiff, reduceAdd, reduceMul, reduceSub, ↓reduceIte, eq_self, t9], by simp only [B, F, reduceLT, reduceLeDiff, reduceEqDiff, reduceAdd, reduceMul, reduceSub, ↓reduceIte, eq_self, t10], by simp only [B, F, reduceLT, reduceLeDiff, reduceEqDiff, reduceAdd, reduceMul, reduceSub, ↓reduceIte, eq_self, t11], by simp only [B, F, reduceLT, reduceLeDiff, reduceEqDiff, reduceAdd, reduceMul, reduceSub, ↓reduceIte, eq_self, t12], by rw [hsn]; simp only [B, F, reduceLT, reduceLeDiff, reduceEqDiff, reduceAdd, reduceMul, reduceSub, ↓reduceIte, eq_self], by simp only [B, F, reduceLT, reduceLeDiff, reduceEqDiff, reduceAdd, reduceMul, reduceSub, ↓reduceIte, eq_self, t99], by simp only [B, F, reduceLT, reduceLeDiff, reduceEqDiff, reduceAdd, reduceMul, reduceSub, ↓reduceIte, eq_self, t100], by simp only [B, F, reduceLT, reduceLeDiff, reduceEqDiff, reduceAdd, reduceMul, reduceSub, ↓reduceIte, eq_self], ((oo.t o2).t o3).t o4⟩
 ·have d1 : decide (i < s.length) = false := decide_eq_false hi
  obtain rfl : i = s.length:= by omega
  rw [List.take_length] at t13
  repeat' (first | ((with_reducible refine st1 ?_); (conv => whnf); (with_reducible refine ⟨?_⟩)) | ((with_reducible refine retW_intro rfl ?_); (conv => arg 2; whnf)) | ((with_reducible first | refine iB ?_ ?_ | refine gWt ?_ ?_ | refine gWf ?_ ?_) <;> intro hb <;> (try simp only [hb])) | (simp only [B, F, reduceLT, reduceLeDiff, reduceEqDiff, reduceAdd, reduceMul, reduceSub, ↓reduceIte, eq_self, t0, t1, t8, t9, t10, t11, t12, t13, t99, t100, t101, d1]))
  exact ⟨rfl, o1.t oo⟩
theorem u86a : ∃ ms, P.underlying 86 = some (.interface ms) := by
 have h : (match P.underlying 86 with | some (.interface _) => true | _ => false) = true:= by kernel_rfl
 split at h
 ·exact ⟨_, by assumption⟩
 ·cases h
theorem neI (h : H) (x : Operand) (y : Value) : binR P h .neq 86 x (.const y) .nilIface .nilIface = .val (.bool false) h := by
 obtain ⟨ms, hu⟩ := u86a
 simp only [binR, apartA, binA, guardEq, eqA, hu, optV, isConstB, Bool.or_true, Bool.not_true]
theorem eqI (h : H) (x : Operand) (y : Value) : binR P h .eql 86 x (.const y) .nilIface .nilIface = .val (.bool true) h := by
 obtain ⟨ms, hu⟩ := u86a
 simp only [binR, apartA, binA, guardEq, eqA, hu, optV, isConstB, Bool.or_true]
theorem parseC (h0 : H) (s : List Nat) (hs : allHx s) (hz : s.length ≤ 15) (hp : 0 < s.length) : PushC P (.enter 33 [.str s, .int .i64 (.ofNat 16), .int .i64 (.ofNat 64)] h0) (SaysG h0 (.tuple [.int .u64 (.ofNat (numX s)), .nilIface])) := by
 refine pushC_of_codeW (fn := Tryz.f33) (c := bodyC Tryz.f33) Tryz.func33 rfl ?_
 show codeW P 33 26 none _ _ _ _ _
 refine codeW_root ?_
 repeat' (first | ((with_reducible refine st1 ?_); (conv => whnf); (with_reducible refine ⟨?_⟩)) | ((with_reducible refine retW_intro rfl ?_); (conv => arg 2; whnf)) | ((with_reducible first | refine iB ?_ ?_ | refine gWt ?_ ?_ | refine gWf ?_ ?_) <;> intro hb <;> (try simp only [hb])) | (simp only [B, F, reduceLT, reduceLeDiff, reduceEqDiff, reduceAdd, reduceMul, reduceSub, ↓reduceIte, eq_self]))
 refine ((parse0 _ s hs hz hp).call P).mono P ?_
 rintro v h1 ⟨rfl, o1⟩
 repeat' (first | ((with_reducible refine st1 ?_); (conv => whnf); (with_reducible refine ⟨?_⟩)) | ((with_reducible refine retW_intro rfl ?_); (conv => arg 2; whnf)) | ((with_reducible first | refine iB ?_ ?_ | refine gWt ?_ ?_ | refine gWf ?_ ?_) <;> intro hb <;> (try simp only [hb])) | (simp only [B, F, reduceLT, reduceLeDiff, reduceEqDiff, reduceAdd, reduceMul, reduceSub, ↓reduceIte, eq_self, neI]))
 exact ⟨rfl, o1⟩
instance (s : List Nat) : Decidable (allHx s):= by unfold allHx; infer_instance
def digX (k : List Nat) : List Nat := (k.drop 1).take 12
def cliOf (k : List Nat) : Option Nat := if k.length = 16 ∧ k[0]? = some 115 ∧ allHx (digX k) then some (numX (digX k)) else none
theorem clientC (h0 : H) (k : List Nat) (hk : isBy k) (hz : k.length < 1000000) : PushC P (.enter 18 [.str k] h0) fun v h' => ∃ n, SaysG h0 (.tuple [.int .u64 (.ofNat n), .bool (cliOf k).isSome]) v h' ∧ ∀ c, cliOf k = some c → n = c := by
 have hxb : bytesOf { data := #[48, 49, 50, 51, 52, 53, 54, 55, 56, 57, 97, 98, 99, 100, 101, 102] } = hexes := rfl
 have e0 : bytesOf { data := #[] } = [] := rfl
 by_cases q1 : k.length = 16
 ·have d1 : decide (k.length = 16) = true := decide_eq_true q1
  obtain ⟨x, hx⟩ : ∃ x, k[0]? = some x := ⟨_, List.getElem?_eq_getElem (by omega)⟩
  have ix := ix_str hx .i64
  by_cases q2 : x = 115
  ·have d2 : decide (x = 115) = true := decide_eq_true q2
   have cl := cut_lh k 1 13 (by omega) (by omega)
   have hdg : (k.take 13).drop 1 = digX k:= by unfold digX; rw [List.drop_take]
   rw [hdg] at cl
   have dby : isBy (digX k) := fun c hc => hk c (List.mem_of_mem_drop (List.mem_of_mem_take hc))
   have dln : (digX k).length = 12:= by unfold digX; rw [List.length_take, List.length_drop]; omega
   refine pushC_of_codeW (fn := Tryz.f18) (c := bodyC Tryz.f18) Tryz.func18 rfl ?_
   show codeW P 18 28 none _ _ _ _ _
   refine codeW_root ?_
   repeat' (first | ((with_reducible refine st1 ?_); (conv => whnf); (with_reducible refine ⟨?_⟩)) | ((with_reducible refine retW_intro rfl ?_); (conv => arg 2; whnf)) | ((with_reducible first | refine iB ?_ ?_ | refine gWt ?_ ?_ | refine gWf ?_ ?_) <;> intro hb <;> (try simp only [hb])) | (simp only [B, xB, F, reduceLT, reduceLeDiff, reduceEqDiff, reduceAdd, reduceMul, reduceSub, ↓reduceIte, eq_self, d1, ix, d2, Bool.not_true, @ex_sl_lh, cl, hxb]))
   refine ((trimC _ (digX k) dby (by omega)).call P).mono P ?_
   rintro v h1 ⟨o1, r, rfl, hr⟩
   by_cases q3 : r = []
   ·have d3 : decide (r = []) = true := decide_eq_true q3
    have hh := hr.1 q3
    have hc : cliOf k = some (numX (digX k)):= by unfold cliOf; rw [if_pos ⟨q1, by rw [hx, q2], hh⟩]
    repeat' (first | ((with_reducible refine st1 ?_); (conv => whnf); (with_reducible refine ⟨?_⟩)) | ((with_reducible refine retW_intro rfl ?_); (conv => arg 2; whnf)) | ((with_reducible first | refine iB ?_ ?_ | refine gWt ?_ ?_ | refine gWf ?_ ?_) <;> intro hb <;> (try simp only [hb])) | (simp only [B, xB, F, reduceLT, reduceLeDiff, reduceEqDiff, reduceAdd, reduceMul, reduceSub, ↓reduceIte, eq_self, e0, d3, Bool.not_true]))
    refine ((parseC _ (digX k) hh (by omega) (by omega)).call P).mono P ?_
    rintro v h2 ⟨rfl, o2⟩
    repeat' (first | ((with_reducible refine st1 ?_); (conv => whnf); (with_reducible refine ⟨?_⟩)) | ((with_reducible refine st_dw ?_ rfl rfl ?_ ?_); exact rfl; kernel_rfl; (conv => arg 5; whnf); (conv => arg 3; whnf)) | ((with_reducible refine retW_intro rfl ?_); (conv => arg 2; whnf)) | ((with_reducible first | refine iB ?_ ?_ | refine gWt ?_ ?_ | refine gWf ?_ ?_ | refine gXt ?_ ?_ | refine gXf ?_ ?_) <;> intro hb <;> (try simp only [hb])) | ((with_reducible show drawI _ _ _ _ _ _ _ _ _); first | ((with_reducible refine kI_rd ?_ ?_); exact rfl) | ((with_reducible apply kI_rg); exact rfl; exact rfl) | ((with_reducible refine kI_cv ?_ ?_ ?_); exact rfl; kernel_rfl) | ((with_reducible apply kI_al); exact rfl; exact rfl) | ((with_reducible refine kI_ex ?_ ?_ ?_ ?_ ?_); exact rfl; kernel_rfl; exact rfl) | ((with_reducible apply kI_eg); exact rfl; kernel_rfl; exact rfl) | ((with_reducible refine kI_nl ?_ ?_))) | ((with_reducible show eOk _ _ _ _ _ _); first | (exact eok_nil) | (refine ke_rd ?_ ?_ ?_; exact rfl) | (apply ke_rg; exact rfl; exact rfl) | (refine ke_cv ?_ ?_ ?_ ?_; exact rfl; kernel_rfl) | (apply ke_fl; exact rfl) | (apply ke_al; exact rfl; exact rfl)) | ((with_reducible refine freshIs_new ?_); kernel_rfl) | (simp only [B, xB, F, reduceLT, reduceLeDiff, reduceEqDiff, reduceAdd, reduceMul, reduceSub, ↓reduceIte, eq_self, eqI]))
    refine ⟨numX (digX k), ⟨by rw [hc]; rfl, o1.t o2⟩, fun c e => by rw [hc] at e; exact Option.some.inj e⟩
   ·have d3 : decide (r = []) = false := decide_eq_false q3
    have hc : cliOf k = none:= by unfold cliOf; rw [if_neg (fun e => q3 (hr.2 e.2.2))]
    repeat' (first | ((with_reducible refine st1 ?_); (conv => whnf); (with_reducible refine ⟨?_⟩)) | ((with_reducible refine retW_intro rfl ?_); (conv => arg 2; whnf)) | ((with_reducible first | refine iB ?_ ?_ | refine gWt ?_ ?_ | refine gWf ?_ ?_) <;> intro hb <;> (try simp only [hb])) | (simp only [B, xB, F, reduceLT, reduceLeDiff, reduceEqDiff, reduceAdd, reduceMul, reduceSub, ↓reduceIte, eq_self, e0, d3, Bool.not_false]))
    refine ⟨0, ⟨by rw [hc]; rfl, o1⟩, fun c e => by rw [hc] at e; cases e⟩
  ·have d2 : decide (x = 115) = false := decide_eq_false q2
   have hc : cliOf k = none:= by unfold cliOf; rw [if_neg (fun e => q2 (by rw [hx] at e; exact Option.some.inj e.2.1))]
   refine pushC_of_codeW (fn := Tryz.f18) (c := bodyC Tryz.f18) Tryz.func18 rfl ?_
   show codeW P 18 28 none _ _ _ _ _
   refine codeW_root ?_
   repeat' (first | ((with_reducible refine st1 ?_); (conv => whnf); (with_reducible refine ⟨?_⟩)) | ((with_reducible refine retW_intro rfl ?_); (conv => arg 2; whnf)) | ((with_reducible first | refine iB ?_ ?_ | refine gWt ?_ ?_ | refine gWf ?_ ?_) <;> intro hb <;> (try simp only [hb])) | (simp only [B, xB, F, reduceLT, reduceLeDiff, reduceEqDiff, reduceAdd, reduceMul, reduceSub, ↓reduceIte, eq_self, d1, ix, d2, Bool.not_true, Bool.not_false]))
   refine ⟨0, ⟨by rw [hc]; rfl, Og.refl _ _⟩, fun c e => by rw [hc] at e; cases e⟩
 ·have d1 : decide (k.length = 16) = false := decide_eq_false q1
  have hc : cliOf k = none:= by unfold cliOf; rw [if_neg (fun e => q1 e.1)]
  refine pushC_of_codeW (fn := Tryz.f18) (c := bodyC Tryz.f18) Tryz.func18 rfl ?_
  show codeW P 18 28 none _ _ _ _ _
  refine codeW_root ?_
  repeat' (first | ((with_reducible refine st1 ?_); (conv => whnf); (with_reducible refine ⟨?_⟩)) | ((with_reducible refine retW_intro rfl ?_); (conv => arg 2; whnf)) | ((with_reducible first | refine iB ?_ ?_ | refine gWt ?_ ?_ | refine gWf ?_ ?_) <;> intro hb <;> (try simp only [hb])) | (simp only [B, xB, F, reduceLT, reduceLeDiff, reduceEqDiff, reduceAdd, reduceMul, reduceSub, ↓reduceIte, eq_self, d1, Bool.not_false]))
  refine ⟨0, ⟨by rw [hc]; rfl, Og.refl _ _⟩, fun c e => by rw [hc] at e; cases e⟩
end
end Go.Proofs.YtllmfnedkhiomaaGreatDoor.S


/-
  index: law 10 (IndexRestores).
  index: law 10 (IndexRestores), whole.
  'IndexRestores' returns true, whatever the input; each argument reads as it did. No condition.
-/
import Derived.Test.YtlkngpckibidlaaAxI
import Derived.Test.YtlkngpckibidlaaG3
import Derived.Test.YtlkngpckibidlaaRows
import Derived.OpenShut
set_option linter.unusedSimpArgs false
set_option linter.unusedVariables false
set_option linter.unusedSectionVars false
open Nat (reduceLT reduceLeDiff reduceEqDiff reduceAdd reduceMul reduceSub)
namespace Go.Proofs.Ytlkngpckibidlaa.X
open Go Go.AX
noncomputable section
set_option maxRecDepth 100000
structure LA (b b2 : Nat) (w v : AV) (A : List Rc) (K : List W.Rv) (last low : Nat) (hk : H) (n : Nat) (ds : List Nat) (tm : T AV) (h : H) (i left : Nat) (R : List Pr) (s : AV) (D : Nat → List W.Ch) : Prop where
  ds : ds = []
  nn : n = A.length - i
  ii : i ≤ A.length
  t7 : tm.get 7 = some (.ptr b 0)
  t8 : tm.get 8 = some w
  t9 : tm.get 9 = some (.int .u64 (.ofNat last))
  t10 : tm.get 10 = some (.int .u64 (.ofNat low))
  t11 : tm.get 11 = some v
  t12 : tm.get 12 = some (.ptr b2 0)
  t13 : tm.get 13 = some (.int .i64 (.ofNat left))
  t14 : tm.get 14 = some (.int .i64 (.ofNat i))
  lf : left < 256
  oo : Only hk h []
  ix : IxR (fun c => hk.nx ≤ c) h b2 R s
  ys : ∀ c, blkOf s = some c → hk.nx ≤ c
  md : Mdl R D
  rs : RsI A low K i left D
structure LB (b b2 : Nat) (w v : AV) (K : List W.Rv) (last low i left : Nat) (x : Bool) (rv : W.Rv) (h0 : H) (n : Nat) (ds : List Nat) (tm : T AV) (h : H) (j : Nat) : Prop where
  ds : ds = []
  nn : n = K.length - j
  jj : j ≤ K.length
  t7 : tm.get 7 = some (.ptr b 0)
  t8 : tm.get 8 = some w
  t9 : tm.get 9 = some (.int .u64 (.ofNat last))
  t10 : tm.get 10 = some (.int .u64 (.ofNat low))
  t11 : tm.get 11 = some v
  t12 : tm.get 12 = some (.ptr b2 0)
  t13 : tm.get 13 = some (.int .i64 (.ofNat left))
  t14 : tm.get 14 = some (.int .i64 (.ofNat i))
  t15 : tm.get 15 = some (.bool (x || decide (rv ∈ K.take j)))
  t16 : tm.get 16 = some (.int .i64 (.ofNat j))
  hh : h = h0
structure LM (b b2 : Nat) (w : AV) (last low : Nat) (hs : H) (n : Nat) (ds : List Nat) (tm : T AV) (h : H) (m : Nat) : Prop where
  ds : ds = []
  nn : n = last + 1 - m
  mm : low ≤ m ∧ m ≤ last + 1
  t7 : tm.get 7 = some (.ptr b 0)
  t8 : tm.get 8 = some w
  t9 : tm.get 9 = some (.int .u64 (.ofNat last))
  t10 : tm.get 10 = some (.int .u64 (.ofNat low))
  t12 : tm.get 12 = some (.ptr b2 0)
  t17 : tm.get 17 = some (.int .u64 (.ofNat m))
  oo : Only hs h []
theorem stopZ {ds : List Nat} {tm : T AV} {h : H} {Q : KQ} (hw : Stop (codeW P 10 158 none (codeI (bodyC Try.f10) [0, 1, 1, 1, 1, 1, 1, 1, 1, 1, 1, 1, 1, 1]) ds tm h Q)) : codeW P 10 158 none (codeI (bodyC Try.f10) [0, 1, 1, 1, 1, 1, 1, 1, 1, 1, 1, 1, 1, 1]) ds tm h Q := hw
theorem only_up {h0 h h' : H} {S : List Nat} (a : Only h0 h []) (b : Only h h' S) (hS : ∀ c, c ∈ S → h0.nx ≤ c) : Only h0 h' [] :=
  ⟨Nat.le_trans a.1 b.1, fun c hc _ => by rw [b.2 c (Nat.lt_of_lt_of_le hc a.1) (fun q => by have := hS c q; omega), a.2 c hc (by simp)]⟩
theorem row_up {n : Nat} {b : Nat} {s : AV} (hb : n ≤ b) (hs : ∀ c, blkOf s = some c → n ≤ c) : ∀ c, c ∈ b :: rowL s → n ≤ c := fun c hc => by
  rcases List.mem_cons.1 hc with q | q
  · omega
  · unfold rowL at q
    cases e : blkOf s with
    | none => rw [e] at q; cases q
    | some d => rw [e] at q; rw [List.mem_singleton] at q; subst q; exact hs _ e
theorem nb_up {h : H} {s s' : AV} {n : Nat} (hb : Nb h s s') (hn : n ≤ h.nx) (hs : ∀ c, blkOf s = some c → n ≤ c) : ∀ c, blkOf s' = some c → n ≤ c := fun c e => by
  rcases hb c e with q | q
  · exact hs c q
  · omega
theorem kk_ok (k : Nat) : keyOk (kk k) := ⟨by unfold kk; simp, by unfold kk; simp⟩
theorem md_len {R : List Pr} {D : Nat → List W.Ch} (hm : Mdl R D) : R.length < 100000 := by
  rw [hm.len]
  have := List.length_filter_le (fun k => !(D k).isEmpty) (List.range 8)
  rw [List.length_range] at this
  omega
def PostRe (hk h : H) (b2 : Nat) (A : List Rc) (low i left : Nat) (K : List W.Rv) (v : AV) (h' : H) : Prop :=
  v = W.errV 0 ∧ Only hk h' [] ∧ ∃ R' s' D', IxR (fun c => hk.nx ≤ c) h' b2 R' s' ∧ (∀ c, blkOf s' = some c → hk.nx ≤ c) ∧ Mdl R' D' ∧ RsI A low K (i + 1) left D'
theorem reC {hk h : H} {b2 : Nat} {A : List Rc} {low i left : Nat} {K : List W.Rv} {R : List Pr} {s : AV} {D : Nat → List W.Ch} {r : Rc} (hb : hk.nx ≤ b2) (oo : Only hk h []) (ix : IxR (fun c => hk.nx ≤ c) h b2 R s) (ys : ∀ c, blkOf s = some c → hk.nx ≤ c) (md : Mdl R D) (rs : RsI A low K i left D) (hG : ∀ k, k < 8 → W.Good (chK A k)) (hA : A.length ≤ 60)
    (hr : A[i]? = some r) {k : Nat} (hk8 : k < 8) (hkey : r.key = kk k) (hst : left = 0 ∨ stB low K r.rev = true) :
    PushC P (.enter 37 [.ptr b2 0, rcA r] h) (PostRe hk h b2 A low i left K) := by
  have hko : keyOk r.key := by rw [hkey]; exact kk_ok k
  have hsz : W.Sz 900 (getL r.key R) := (md.szg _).le (by omega)
  have hup := row_up hb ys
  cases ht : r.tomb with
  | false =>
    have hg := rs.next hG hr hk8 hkey (fun _ => ht)
    obtain ⟨e0, ea, ew⟩ := (rest_step md hk8 hkey hg).2 ht
    refine (IxRestC h b2 R s r ix (md_len md) hko hsz ht).mono P ?_
    rintro v h' ⟨rfl, g, s', o, nb, ix'⟩
    rw [e0] at ix' ⊢
    simp only [if_true] at ix'
    rw [hkey] at ix' ea ew
    have md' := md.set hk8 g ew (fun e => by rw [e] at ea; simp [W.all] at ea) ea (by have := rs.len hk8; simp; omega) ix'.ix.sr
    exact ⟨rfl, only_up oo o hup, _, s', _, ix', nb_up nb oo.1 ys, md', rs.put hr hkey hst (fun _ => ht)⟩
  | true =>
    refine (IxRestT h b2 R s r ix (md_len md) hko hsz (md.wfg _).outer ht).mono P ?_
    rintro v h' ⟨rfl, g, s', o, nb, ix'⟩
    cases q : D k with
    | nil =>
      have hpos : 0 < r.rev.1 := by
        obtain ⟨Z, hZ⟩ := chK_at hr hkey
        exact ((hG k hk8).ok (toCh r) (by rw [hZ]; simp)).pos
      have e5 := tomb_none md hk8 hkey q hpos
      rw [e5] at ix' ⊢
      simp only [if_true, show (5 = 0) = False by simp, if_false] at ix' ⊢
      exact ⟨rfl, only_up oo o hup, R, s', D, ix', nb_up nb oo.1 ys, md, rs.tomb hG hr hkey q ht⟩
    | cons d l =>
      have hne : D k = [] → r.tomb = false := fun e => by rw [q] at e; cases e
      have hg := rs.next hG hr hk8 hkey hne
      obtain ⟨e0, ea, ew⟩ := (rest_step md hk8 hkey hg).1 ht
      rw [e0] at ix' ⊢
      simp only [if_true, show (0 = 5) = False by simp, if_false] at ix' ⊢
      rw [hkey] at ix' ea ew
      have md' := md.set hk8 g ew (fun e => by rw [e] at ea; simp [W.all] at ea) ea (by have := rs.len hk8; simp; omega) ix'.ix.sr
      exact ⟨rfl, only_up oo o hup, _, s', _, ix', nb_up nb oo.1 ys, md', rs.put hr hkey hst hne⟩
end
end Go.Proofs.Ytlkngpckibidlaa.X

namespace Go.Proofs.Ytlkngpckibidlaa.X
open Go Go.AX
noncomputable section
set_option maxRecDepth 100000
theorem kept_leng {A : List Rc} {m : Nat} {R : List Pr} (hf : Fits A m R) : (keptL m R).length = (gL A m 8).length := by
  unfold keptL modsL
  rw [List.length_mergeSort, List.length_map, hf.it_]
theorem restoresW (h0 : H) (vl : AV) (l : List Nat) (at_ gone : Nat) (sl : SliceAt h0 vl l.length (W.u8s l)) (hb : ∀ n, n ∈ l → n < 256) (ha : at_ < 256) (hg : gone < 256) :
    codeW P 10 158 none (bodyC Try.f10) [] (T.fill .e 0 [vl, .int .u8 (.ofNat at_), .int .u8 (.ofNat gone)]) h0 (retK P Try.f10 PostTrue) := by
  refine codeW_root ?_
  have ho := W.SliceAt.one sl
  repeat' (first | ((with_reducible refine st1 ?_); (conv => whnf); (with_reducible refine ⟨?_⟩)) | ((with_reducible refine retW_intro rfl ?_); (conv => arg 2; whnf)) | ((with_reducible first | refine iB ?_ ?_ | refine gWt ?_ ?_ | refine gWf ?_ ?_) <;> intro hb <;> (try simp only [hb])) | (simp only [B, xB, F, reduceLT, reduceLeDiff, reduceEqDiff, reduceAdd, reduceMul, reduceSub, ↓reduceIte, eq_self, ho]))
  refine ((grownC h0 vl l sl hb).call P).mono P ?_
  rintro v0 hs ⟨b, w, R, s, bs, rfl, os, hb1, hb2, ix, hsb, gr, md, gi⟩
  obtain ⟨A, hA⟩ : ∃ A, A = growA l (min 60 l.length) := ⟨_, rfl⟩
  have hRi : RisesR A := by rw [hA]; exact (growA_rises l _).1
  rw [← hA] at gr md gi
  have hA60 : A.length ≤ 60 := Nat.le_trans gi.len (Nat.min_le_left _ _)
  have hlen := gr.slice.len (P := P) u61
  have go1 := gr.one
  obtain ⟨last, hlast⟩ : ∃ last, last = A.length / 2 + 3 := ⟨_, rfl⟩
  have hl40 : last ≤ 40 := by omega
  have e1 : wrapF .i64 (Int.ofNat (A.length / 2)) = Int.ofNat (A.length / 2) := W.i64_nat (by omega)
  have e2 : wrapF .u64 (Int.ofNat (A.length / 2)) = Int.ofNat (A.length / 2) := W.u64_nat (by omega)
  have e3 : wrapF .u64 (Int.ofNat (A.length / 2) + Int.ofNat 3) = Int.ofNat last := by rw [hlast]; exact u64_add (by omega)
  obtain ⟨low, hq⟩ : ∃ q, q = at_ % (last + 1) := ⟨_, rfl⟩
  have hql : low < last + 1 := by rw [hq]; exact Nat.mod_lt _ (by omega)
  have e4 : wrapF .u64 (Int.ofNat at_) = Int.ofNat at_ := W.u64_nat (by omega)
  have e5 : wrapF .u64 (Int.ofNat last + Int.ofNat 1) = Int.ofNat (last + 1) := u64_add (by omega)
  have e6 : Int.tmod (Int.ofNat at_) (Int.ofNat (last + 1)) = Int.ofNat low := by rw [hq]; rfl
  have e8 : wrapF .i64 (Int.ofNat gone) = Int.ofNat gone := W.i64_nat (by omega)
  repeat' (first | ((with_reducible refine st1 ?_); (conv => whnf); (with_reducible refine ⟨?_⟩)) | ((with_reducible refine retW_intro rfl ?_); (conv => arg 2; whnf)) | ((with_reducible first | refine iB ?_ ?_ | refine gWt ?_ ?_ | refine gWf ?_ ?_) <;> intro hb <;> (try simp only [hb])) | (simp only [B, xB, F, reduceLT, reduceLeDiff, reduceEqDiff, reduceAdd, reduceMul, reduceSub, ↓reduceIte, eq_self, go1, hlen, e1, e2, e3, e4, e5, e6, b_quo _ _ _ (nat_ne_zero (show 0 < 2 by omega)), b_rem _ _ _ (nat_ne_zero (show 0 < last + 1 by omega)), ← hq]))
  refine ((keptC hs b low R s ix (fun p hp => (md.szp hp).le (by omega))).call P).mono P ?_
  rintro v hk ⟨ok, gk⟩
  have gok := gk.one
  repeat' (first | ((with_reducible refine st1 ?_); (conv => whnf); (with_reducible refine ⟨?_⟩)) | ((with_reducible refine retW_intro rfl ?_); (conv => arg 2; whnf)) | ((with_reducible first | refine iB ?_ ?_ | refine gWt ?_ ?_ | refine gWf ?_ ?_) <;> intro hb <;> (try simp only [hb])) | (simp only [B, xB, F, reduceLT, reduceLeDiff, reduceEqDiff, reduceAdd, reduceMul, reduceSub, ↓reduceIte, eq_self, gok]))
  refine ((newC hk).call P).mono P ?_
  rintro v2 hn ⟨rfl, on, xn, ixn⟩
  repeat' (first | ((with_reducible refine st1 ?_); (conv => whnf); (with_reducible refine ⟨?_⟩)) | ((with_reducible refine retW_intro rfl ?_); (conv => arg 2; whnf)) | ((with_reducible first | refine iB ?_ ?_ | refine gWt ?_ ?_ | refine gWf ?_ ?_) <;> intro hb <;> (try simp only [hb])) | (simp only [B, xB, F, reduceLT, reduceLeDiff, reduceEqDiff, reduceAdd, reduceMul, reduceSub, ↓reduceIte, eq_self, gok, e8]))
  have hw61 := gr.slice.only ok (fun _ _ => by simp)
  have hvk := gk.slice
  have hlk := hvk.len (P := P) u29
  have xs := os.1
  have xk := ok.1
  have hf0 : ∀ m, Fits A m R := fun m => md.fits fun k _ => rfl
  have hKp := kept_of (hf0 low)
  have hkl : (keptL low R).length ≤ 8 := by rw [kept_leng (hf0 low)]; exact gL_len A low 8
  obtain ⟨K, hK⟩ : ∃ K, K = keptL low R := ⟨_, rfl⟩
  rw [← hK] at hKp hkl hvk hlk
  have hbw := fun c (e : blkOf w = some c) => hw61.blk c e
  have hbv := fun c (e : blkOf v = some c) => hvk.blk c e
  refine st_loop (fun n ds tm h => ∃ i left R s D, LA b hk.nx w v A K last low hk n ds tm h i left R s D) A.length rfl ⟨0, gone, [], .nilslice, fun _ => [], rfl, rfl, Nat.zero_le _, by simp only [B, xB, F, reduceLT, reduceLeDiff, reduceEqDiff, reduceAdd, reduceMul, reduceSub, ↓reduceIte, eq_self], by simp only [B, xB, F, reduceLT, reduceLeDiff, reduceEqDiff, reduceAdd, reduceMul, reduceSub, ↓reduceIte, eq_self], by simp only [B, xB, F, reduceLT, reduceLeDiff, reduceEqDiff, reduceAdd, reduceMul, reduceSub, ↓reduceIte, eq_self], by simp only [B, xB, F, reduceLT, reduceLeDiff, reduceEqDiff, reduceAdd, reduceMul, reduceSub, ↓reduceIte, eq_self], by simp only [B, xB, F, reduceLT, reduceLeDiff, reduceEqDiff, reduceAdd, reduceMul, reduceSub, ↓reduceIte, eq_self], by simp only [B, xB, F, reduceLT, reduceLeDiff, reduceEqDiff, reduceAdd, reduceMul, reduceSub, ↓reduceIte, eq_self], by simp only [B, xB, F, reduceLT, reduceLeDiff, reduceEqDiff, reduceAdd, reduceMul, reduceSub, ↓reduceIte, eq_self], by simp only [B, xB, F, reduceLT, reduceLeDiff, reduceEqDiff, reduceAdd, reduceMul, reduceSub, ↓reduceIte, eq_self], hg, on, ixn _ (fun c hc => by omega), (fun c e => by cases e), Mdl.nil, RsI.nil _ _ _ _⟩ (fun n ds tm h hI => ?_)
  obtain ⟨i, left, Ry, sy, D, rfl, rfl, ii, t7, t8, t9, t10, t11, t12, t13, t14, lf, oo, iy, ys, my, rs⟩ := hI
  have hx := oo.1
  by_cases hi : i < A.length
  · have d1 : decide (i < A.length) = true := decide_eq_true hi
    have lt1 : (i < A.length) = True := by simp [hi]
    have w1 : wrapF .i64 (Int.ofNat i + Int.ofNat 1) = Int.ofNat (i + 1) := i64_add (by omega)
    obtain ⟨r, hr⟩ : ∃ r, A[i]? = some r := ⟨_, List.getElem?_eq_getElem hi⟩
    obtain ⟨k, hk8, hkey⟩ := gi.key r (List.mem_of_getElem? hr)
    have hws := hw61.only oo (fun _ _ => by simp)
    have hvs := hvk.only oo (fun _ _ => by simp)
    obtain ⟨bl, o, cap, rfl, hbl, -⟩ := hw61.place (by omega)
    obtain ⟨p0, p1, p2, p3, p4, p5, p6, p7⟩ := rcC_at hws hr
    repeat' (first | ((with_reducible refine st1 ?_); (conv => whnf); (with_reducible refine ⟨?_⟩)) | ((with_reducible refine retW_intro rfl ?_); (conv => arg 2; whnf)) | ((with_reducible first | refine iB ?_ ?_ | refine gWt ?_ ?_ | refine gWf ?_ ?_) <;> intro hb <;> (try simp only [hb])) | (simp only [B, xB, F, reduceLT, reduceLeDiff, reduceEqDiff, reduceAdd, reduceMul, reduceSub, ↓reduceIte, eq_self, t7, t8, t9, t10, t11, t12, t13, t14, hlen, d1, lt1, p0]))
    refine st_loop (fun n ds t' h' => ∃ j, LB b hk.nx (.slice bl o A.length cap) v K last low i left (decide (low < r.rev.1)) r.rev h n ds t' h' j) K.length rfl ⟨0, rfl, rfl, Nat.zero_le _, by simp only [B, xB, F, reduceLT, reduceLeDiff, reduceEqDiff, reduceAdd, reduceMul, reduceSub, ↓reduceIte, eq_self, t7], by simp only [B, xB, F, reduceLT, reduceLeDiff, reduceEqDiff, reduceAdd, reduceMul, reduceSub, ↓reduceIte, eq_self, t8], by simp only [B, xB, F, reduceLT, reduceLeDiff, reduceEqDiff, reduceAdd, reduceMul, reduceSub, ↓reduceIte, eq_self, t9], by simp only [B, xB, F, reduceLT, reduceLeDiff, reduceEqDiff, reduceAdd, reduceMul, reduceSub, ↓reduceIte, eq_self, t10], by simp only [B, xB, F, reduceLT, reduceLeDiff, reduceEqDiff, reduceAdd, reduceMul, reduceSub, ↓reduceIte, eq_self, t11], by simp only [B, xB, F, reduceLT, reduceLeDiff, reduceEqDiff, reduceAdd, reduceMul, reduceSub, ↓reduceIte, eq_self, t12], by simp only [B, xB, F, reduceLT, reduceLeDiff, reduceEqDiff, reduceAdd, reduceMul, reduceSub, ↓reduceIte, eq_self, t13], by simp only [B, xB, F, reduceLT, reduceLeDiff, reduceEqDiff, reduceAdd, reduceMul, reduceSub, ↓reduceIte, eq_self, t14], (by simp only [B, xB, F, reduceLT, reduceLeDiff, reduceEqDiff, reduceAdd, reduceMul, reduceSub, ↓reduceIte, eq_self]; simp), by simp only [B, xB, F, reduceLT, reduceLeDiff, reduceEqDiff, reduceAdd, reduceMul, reduceSub, ↓reduceIte, eq_self], rfl⟩ (fun n ds t' h' hI => ?_)
    clear t7 t8 t9 t10 t11 t12 t13 t14
    obtain ⟨j, rfl, rfl, jj, t7, t8, t9, t10, t11, t12, t13, t14, t15, t16, rfl⟩ := hI
    by_cases hj : j < K.length
    · have d2 : decide (j < K.length) = true := decide_eq_true hj
      have lt2 : (j < K.length) = True := by simp [hj]
      have w5 : wrapF .i64 (Int.ofNat j + Int.ofNat 1) = Int.ofNat (j + 1) := i64_add (by omega)
      obtain ⟨y, hy⟩ : ∃ y, K[j]? = some y := ⟨_, List.getElem?_eq_getElem hj⟩
      have hmt := mem_take_succ (r := r.rev) hy
      obtain ⟨bv, ov, cv, rfl, hbv2, -⟩ := hvk.place (by omega)
      obtain ⟨q0, q1⟩ := W.rvC_at hvs hy
      cases q : (decide (low < r.rev.1) || decide (r.rev ∈ K.take j)) with
      | true =>
        rw [q] at t15
        have hq2 : (decide (low < r.rev.1) || decide (r.rev ∈ K.take (j + 1))) = true := by rw [hmt, ← Bool.or_assoc, q, Bool.true_or]
        repeat' (first | ((with_reducible refine st1 ?_); (conv => whnf); (with_reducible refine ⟨?_⟩)) | ((with_reducible refine st_dw ?_ rfl rfl ?_ ?_); exact rfl; kernel_rfl; (conv => arg 5; whnf); (conv => arg 3; whnf)) | ((with_reducible refine retW_intro rfl ?_); (conv => arg 2; whnf)) | ((with_reducible first | refine iB ?_ ?_ | refine gWt ?_ ?_ | refine gWf ?_ ?_ | refine gXt ?_ ?_ | refine gXf ?_ ?_) <;> intro hb <;> (try simp only [hb])) | ((with_reducible show drawI _ _ _ _ _ _ _ _ _); first | ((with_reducible refine kI_rd ?_ ?_); exact rfl) | ((with_reducible apply kI_rg); exact rfl; exact rfl) | ((with_reducible refine kI_cv ?_ ?_ ?_); exact rfl; kernel_rfl) | ((with_reducible apply kI_al); exact rfl; exact rfl) | ((with_reducible refine kI_ex ?_ ?_ ?_ ?_ ?_); exact rfl; kernel_rfl; exact rfl) | ((with_reducible apply kI_eg); exact rfl; kernel_rfl; exact rfl) | ((with_reducible refine kI_nl ?_ ?_))) | ((with_reducible show eOk _ _ _ _ _ _); first | (exact eok_nil) | (refine ke_rd ?_ ?_ ?_; exact rfl) | (apply ke_rg; exact rfl; exact rfl) | (refine ke_cv ?_ ?_ ?_ ?_; exact rfl; kernel_rfl) | (apply ke_al; exact rfl; exact rfl)) | ((with_reducible refine freshIs_new ?_); kernel_rfl) | (simp only [B, xB, F, reduceLT, reduceLeDiff, reduceEqDiff, reduceAdd, reduceMul, reduceSub, ↓reduceIte, eq_self, t7, t8, t9, t10, t11, t12, t13, t14, t15, t16, hlk, d2, lt2, w5]))
        exact ⟨K.length - (j + 1), by omega, j + 1, rfl, rfl, hj, by simp only [B, xB, F, reduceLT, reduceLeDiff, reduceEqDiff, reduceAdd, reduceMul, reduceSub, ↓reduceIte, eq_self, t7], by simp only [B, xB, F, reduceLT, reduceLeDiff, reduceEqDiff, reduceAdd, reduceMul, reduceSub, ↓reduceIte, eq_self, t8], by simp only [B, xB, F, reduceLT, reduceLeDiff, reduceEqDiff, reduceAdd, reduceMul, reduceSub, ↓reduceIte, eq_self, t9], by simp only [B, xB, F, reduceLT, reduceLeDiff, reduceEqDiff, reduceAdd, reduceMul, reduceSub, ↓reduceIte, eq_self, t10], by simp only [B, xB, F, reduceLT, reduceLeDiff, reduceEqDiff, reduceAdd, reduceMul, reduceSub, ↓reduceIte, eq_self, t11], by simp only [B, xB, F, reduceLT, reduceLeDiff, reduceEqDiff, reduceAdd, reduceMul, reduceSub, ↓reduceIte, eq_self, t12], by simp only [B, xB, F, reduceLT, reduceLeDiff, reduceEqDiff, reduceAdd, reduceMul, reduceSub, ↓reduceIte, eq_self, t13], by simp only [B, xB, F, reduceLT, reduceLeDiff, reduceEqDiff, reduceAdd, reduceMul, reduceSub, ↓reduceIte, eq_self, t14], (by rw [hq2]; simp only [B, xB, F, reduceLT, reduceLeDiff, reduceEqDiff, reduceAdd, reduceMul, reduceSub, ↓reduceIte, eq_self]), by simp only [B, xB, F, reduceLT, reduceLeDiff, reduceEqDiff, reduceAdd, reduceMul, reduceSub, ↓reduceIte, eq_self], rfl⟩
      | false =>
        rw [q] at t15
        have hq2 : (decide (low < r.rev.1) || decide (r.rev ∈ K.take (j + 1))) = (decide (y.1 = r.rev.1) && decide (y.2 = r.rev.2)) := by rw [hmt, ← Bool.or_assoc, q, Bool.false_or, W.rv_dec]
        repeat' (first | ((with_reducible refine st1 ?_); (conv => whnf); (with_reducible refine ⟨?_⟩)) | ((with_reducible refine st_dw ?_ rfl rfl ?_ ?_); exact rfl; kernel_rfl; (conv => arg 5; whnf); (conv => arg 3; whnf)) | ((with_reducible refine retW_intro rfl ?_); (conv => arg 2; whnf)) | ((with_reducible first | refine iB ?_ ?_ | refine gWt ?_ ?_ | refine gWf ?_ ?_ | refine gXt ?_ ?_ | refine gXf ?_ ?_) <;> intro hb <;> (try simp only [hb])) | ((with_reducible show drawI _ _ _ _ _ _ _ _ _); first | ((with_reducible refine kI_rd ?_ ?_); exact rfl) | ((with_reducible apply kI_rg); exact rfl; exact rfl) | ((with_reducible refine kI_cv ?_ ?_ ?_); exact rfl; kernel_rfl) | ((with_reducible apply kI_al); exact rfl; exact rfl) | ((with_reducible refine kI_ex ?_ ?_ ?_ ?_ ?_); exact rfl; kernel_rfl; exact rfl) | ((with_reducible apply kI_eg); exact rfl; kernel_rfl; exact rfl) | ((with_reducible refine kI_nl ?_ ?_))) | ((with_reducible show eOk _ _ _ _ _ _); first | (exact eok_nil) | (refine ke_rd ?_ ?_ ?_; exact rfl) | (apply ke_rg; exact rfl; exact rfl) | (refine ke_cv ?_ ?_ ?_ ?_; exact rfl; kernel_rfl) | (apply ke_al; exact rfl; exact rfl)) | ((with_reducible refine freshIs_new ?_); kernel_rfl) | (simp only [B, xB, F, reduceLT, reduceLeDiff, reduceEqDiff, reduceAdd, reduceMul, reduceSub, ↓reduceIte, eq_self, t7, t8, t9, t10, t11, t12, t13, t14, t15, t16, hlk, hlen, d2, lt2, lt1, w5, q0, q1, p0, p1]))
        exact ⟨K.length - (j + 1), by omega, j + 1, rfl, rfl, hj, by simp only [B, xB, F, reduceLT, reduceLeDiff, reduceEqDiff, reduceAdd, reduceMul, reduceSub, ↓reduceIte, eq_self, t7], by simp only [B, xB, F, reduceLT, reduceLeDiff, reduceEqDiff, reduceAdd, reduceMul, reduceSub, ↓reduceIte, eq_self, t8], by simp only [B, xB, F, reduceLT, reduceLeDiff, reduceEqDiff, reduceAdd, reduceMul, reduceSub, ↓reduceIte, eq_self, t9], by simp only [B, xB, F, reduceLT, reduceLeDiff, reduceEqDiff, reduceAdd, reduceMul, reduceSub, ↓reduceIte, eq_self, t10], by simp only [B, xB, F, reduceLT, reduceLeDiff, reduceEqDiff, reduceAdd, reduceMul, reduceSub, ↓reduceIte, eq_self, t11], by simp only [B, xB, F, reduceLT, reduceLeDiff, reduceEqDiff, reduceAdd, reduceMul, reduceSub, ↓reduceIte, eq_self, t12], by simp only [B, xB, F, reduceLT, reduceLeDiff, reduceEqDiff, reduceAdd, reduceMul, reduceSub, ↓reduceIte, eq_self, t13], by simp only [B, xB, F, reduceLT, reduceLeDiff, reduceEqDiff, reduceAdd, reduceMul, reduceSub, ↓reduceIte, eq_self, t14], (by rw [hq2]; simp only [B, xB, F, reduceLT, reduceLeDiff, reduceEqDiff, reduceAdd, reduceMul, reduceSub, ↓reduceIte, eq_self]), by simp only [B, xB, F, reduceLT, reduceLeDiff, reduceEqDiff, reduceAdd, reduceMul, reduceSub, ↓reduceIte, eq_self], rfl⟩
    ·
      have d2 : decide (j < K.length) = false := decide_eq_false hj
      obtain rfl : j = K.length := by omega
      rw [List.take_length] at t15
      have hst : stB low K r.rev = (decide (low < r.rev.1) || decide (r.rev ∈ K)) := rfl
      rw [← hst] at t15
      cases q : stB low K r.rev with
      | false =>
        rw [q] at t15
        cases left with
        | succ left =>
          have d3 : decide (0 < left + 1) = true := decide_eq_true (by omega)
          have w6 : wrapF .i64 (Int.ofNat (left + 1) - Int.ofNat 1) = Int.ofNat left := by
            have := i64_sub (a := left + 1) (b := 1) (by omega) (by omega); rwa [Nat.add_sub_cancel] at this
          repeat' (first | ((with_reducible refine st1 ?_); (conv => whnf); (with_reducible refine ⟨?_⟩)) | ((with_reducible refine retW_intro rfl ?_); (conv => arg 2; whnf)) | ((with_reducible first | refine iB ?_ ?_ | refine gWt ?_ ?_ | refine gWf ?_ ?_) <;> intro hb <;> (try simp only [hb])) | (simp only [B, xB, F, reduceLT, reduceLeDiff, reduceEqDiff, reduceAdd, reduceMul, reduceSub, ↓reduceIte, eq_self, t7, t8, t9, t10, t11, t12, t13, t14, t15, t16, hlk, d2, d3, w6, w1, Bool.not_true, Bool.not_false]))
          exact ⟨A.length - (i + 1), by omega, i + 1, left, Ry, sy, D, rfl, rfl, hi, by simp only [B, xB, F, reduceLT, reduceLeDiff, reduceEqDiff, reduceAdd, reduceMul, reduceSub, ↓reduceIte, eq_self, t7], by simp only [B, xB, F, reduceLT, reduceLeDiff, reduceEqDiff, reduceAdd, reduceMul, reduceSub, ↓reduceIte, eq_self, t8], by simp only [B, xB, F, reduceLT, reduceLeDiff, reduceEqDiff, reduceAdd, reduceMul, reduceSub, ↓reduceIte, eq_self, t9], by simp only [B, xB, F, reduceLT, reduceLeDiff, reduceEqDiff, reduceAdd, reduceMul, reduceSub, ↓reduceIte, eq_self, t10], by simp only [B, xB, F, reduceLT, reduceLeDiff, reduceEqDiff, reduceAdd, reduceMul, reduceSub, ↓reduceIte, eq_self, t11], by simp only [B, xB, F, reduceLT, reduceLeDiff, reduceEqDiff, reduceAdd, reduceMul, reduceSub, ↓reduceIte, eq_self, t12], by simp only [B, xB, F, reduceLT, reduceLeDiff, reduceEqDiff, reduceAdd, reduceMul, reduceSub, ↓reduceIte, eq_self], by simp only [B, xB, F, reduceLT, reduceLeDiff, reduceEqDiff, reduceAdd, reduceMul, reduceSub, ↓reduceIte, eq_self], by omega, oo, iy, ys, my, rs.drop hRi gi.good hKp hr q⟩
        | zero =>
          have d3 : decide (0 < 0) = false := rfl
          repeat' (first | ((with_reducible refine st1 ?_); (conv => whnf); (with_reducible refine ⟨?_⟩)) | ((with_reducible refine retW_intro rfl ?_); (conv => arg 2; whnf)) | ((with_reducible first | refine iB ?_ ?_ | refine gWt ?_ ?_ | refine gWf ?_ ?_) <;> intro hb <;> (try simp only [hb])) | (simp only [B, xB, F, reduceLT, reduceLeDiff, reduceEqDiff, reduceAdd, reduceMul, reduceSub, ↓reduceIte, eq_self, t7, t8, t9, t10, t11, t12, t13, t14, t15, t16, hlk, hlen, lt1, d2, d3, p0, p1, p2, p3, p4, p5, p6, p7, Bool.not_true, Bool.not_false]))
          have hre := reC (Nat.le_refl _) oo iy ys my rs gi.good hA60 hr hk8 hkey (.inl rfl)
          unfold rcA rcC at hre
          refine (hre.call P).mono P ?_
          rintro v5 h5 ⟨rfl, o5, R5, s5, D5, ix5, ys5, my5, rs5⟩
          unfold W.errV
          repeat' (first | ((with_reducible refine st1 ?_); (conv => whnf); (with_reducible refine ⟨?_⟩)) | ((with_reducible refine retW_intro rfl ?_); (conv => arg 2; whnf)) | ((with_reducible first | refine iB ?_ ?_ | refine gWt ?_ ?_ | refine gWf ?_ ?_) <;> intro hb <;> (try simp only [hb])) | (simp only [B, xB, F, reduceLT, reduceLeDiff, reduceEqDiff, reduceAdd, reduceMul, reduceSub, ↓reduceIte, eq_self, t7, t8, t9, t10, t11, t12, t13, t14, t15, t16, w1, Bool.not_true, Bool.not_false]))
          exact ⟨A.length - (i + 1), by omega, i + 1, 0, R5, s5, D5, rfl, rfl, hi, by simp only [B, xB, F, reduceLT, reduceLeDiff, reduceEqDiff, reduceAdd, reduceMul, reduceSub, ↓reduceIte, eq_self, t7], by simp only [B, xB, F, reduceLT, reduceLeDiff, reduceEqDiff, reduceAdd, reduceMul, reduceSub, ↓reduceIte, eq_self, t8], by simp only [B, xB, F, reduceLT, reduceLeDiff, reduceEqDiff, reduceAdd, reduceMul, reduceSub, ↓reduceIte, eq_self, t9], by simp only [B, xB, F, reduceLT, reduceLeDiff, reduceEqDiff, reduceAdd, reduceMul, reduceSub, ↓reduceIte, eq_self, t10], by simp only [B, xB, F, reduceLT, reduceLeDiff, reduceEqDiff, reduceAdd, reduceMul, reduceSub, ↓reduceIte, eq_self, t11], by simp only [B, xB, F, reduceLT, reduceLeDiff, reduceEqDiff, reduceAdd, reduceMul, reduceSub, ↓reduceIte, eq_self, t12], by simp only [B, xB, F, reduceLT, reduceLeDiff, reduceEqDiff, reduceAdd, reduceMul, reduceSub, ↓reduceIte, eq_self, t13], by simp only [B, xB, F, reduceLT, reduceLeDiff, reduceEqDiff, reduceAdd, reduceMul, reduceSub, ↓reduceIte, eq_self], by omega, o5, ix5, ys5, my5, rs5⟩
      | true =>
        rw [q] at t15
        repeat' (first | ((with_reducible refine st1 ?_); (conv => whnf); (with_reducible refine ⟨?_⟩)) | ((with_reducible refine retW_intro rfl ?_); (conv => arg 2; whnf)) | ((with_reducible first | refine iB ?_ ?_ | refine gWt ?_ ?_ | refine gWf ?_ ?_) <;> intro hb <;> (try simp only [hb])) | (simp only [B, xB, F, reduceLT, reduceLeDiff, reduceEqDiff, reduceAdd, reduceMul, reduceSub, ↓reduceIte, eq_self, t7, t8, t9, t10, t11, t12, t13, t14, t15, t16, hlk, hlen, lt1, d2, p0, p1, p2, p3, p4, p5, p6, p7, Bool.not_true, Bool.not_false]))
        have hre := reC (Nat.le_refl _) oo iy ys my rs gi.good hA60 hr hk8 hkey (.inr q)
        unfold rcA rcC at hre
        refine (hre.call P).mono P ?_
        rintro v5 h5 ⟨rfl, o5, R5, s5, D5, ix5, ys5, my5, rs5⟩
        unfold W.errV
        repeat' (first | ((with_reducible refine st1 ?_); (conv => whnf); (with_reducible refine ⟨?_⟩)) | ((with_reducible refine retW_intro rfl ?_); (conv => arg 2; whnf)) | ((with_reducible first | refine iB ?_ ?_ | refine gWt ?_ ?_ | refine gWf ?_ ?_) <;> intro hb <;> (try simp only [hb])) | (simp only [B, xB, F, reduceLT, reduceLeDiff, reduceEqDiff, reduceAdd, reduceMul, reduceSub, ↓reduceIte, eq_self, t7, t8, t9, t10, t11, t12, t13, t14, t15, t16, w1, Bool.not_true, Bool.not_false]))
        exact ⟨A.length - (i + 1), by omega, i + 1, left, R5, s5, D5, rfl, rfl, hi, by simp only [B, xB, F, reduceLT, reduceLeDiff, reduceEqDiff, reduceAdd, reduceMul, reduceSub, ↓reduceIte, eq_self, t7], by simp only [B, xB, F, reduceLT, reduceLeDiff, reduceEqDiff, reduceAdd, reduceMul, reduceSub, ↓reduceIte, eq_self, t8], by simp only [B, xB, F, reduceLT, reduceLeDiff, reduceEqDiff, reduceAdd, reduceMul, reduceSub, ↓reduceIte, eq_self, t9], by simp only [B, xB, F, reduceLT, reduceLeDiff, reduceEqDiff, reduceAdd, reduceMul, reduceSub, ↓reduceIte, eq_self, t10], by simp only [B, xB, F, reduceLT, reduceLeDiff, reduceEqDiff, reduceAdd, reduceMul, reduceSub, ↓reduceIte, eq_self, t11], by simp only [B, xB, F, reduceLT, reduceLeDiff, reduceEqDiff, reduceAdd, reduceMul, reduceSub, ↓reduceIte, eq_self, t12], by simp only [B, xB, F, reduceLT, reduceLeDiff, reduceEqDiff, reduceAdd, reduceMul, reduceSub, ↓reduceIte, eq_self, t13], by simp only [B, xB, F, reduceLT, reduceLeDiff, reduceEqDiff, reduceAdd, reduceMul, reduceSub, ↓reduceIte, eq_self], lf, o5, ix5, ys5, my5, rs5⟩
  ·
    have d1 : decide (i < A.length) = false := decide_eq_false hi
    obtain rfl : i = A.length := by omega
    have hwh := hw61.only oo (fun _ _ => by simp)
    have hsk := fun k hk => rs.isK (k := k) hk
    have hfy : ∀ m, low ≤ m → Fits A m Ry := fun m hm => my.fits fun k hk => (hsk k hk).1 m hm
    repeat' (first | ((with_reducible refine st1 ?_); (conv => whnf); (with_reducible refine ⟨?_⟩)) | ((with_reducible refine retW_intro rfl ?_); (conv => arg 2; whnf)) | ((with_reducible first | refine iB ?_ ?_ | refine gWt ?_ ?_ | refine gWf ?_ ?_) <;> intro hb <;> (try simp only [hb])) | (simp only [B, xB, F, reduceLT, reduceLeDiff, reduceEqDiff, reduceAdd, reduceMul, reduceSub, ↓reduceIte, eq_self, t7, t8, t9, t10, t11, t12, t13, t14, hlen, d1]))
    refine st_loop (fun n ds tm h' => ∃ m, LM b hk.nx w last low h n ds tm h' m) (last + 1 - low) rfl ⟨low, rfl, rfl, ⟨Nat.le_refl _, by omega⟩, by simp only [B, xB, F, reduceLT, reduceLeDiff, reduceEqDiff, reduceAdd, reduceMul, reduceSub, ↓reduceIte, eq_self, t7], by simp only [B, xB, F, reduceLT, reduceLeDiff, reduceEqDiff, reduceAdd, reduceMul, reduceSub, ↓reduceIte, eq_self, t8], by simp only [B, xB, F, reduceLT, reduceLeDiff, reduceEqDiff, reduceAdd, reduceMul, reduceSub, ↓reduceIte, eq_self, t9], by simp only [B, xB, F, reduceLT, reduceLeDiff, reduceEqDiff, reduceAdd, reduceMul, reduceSub, ↓reduceIte, eq_self, t10], by simp only [B, xB, F, reduceLT, reduceLeDiff, reduceEqDiff, reduceAdd, reduceMul, reduceSub, ↓reduceIte, eq_self, t12], by simp only [B, xB, F, reduceLT, reduceLeDiff, reduceEqDiff, reduceAdd, reduceMul, reduceSub, ↓reduceIte, eq_self], Only.refl _ _⟩ (fun n ds tm h4 hI => ?_)
    clear t7 t8 t9 t10 t11 t12 t13 t14
    obtain ⟨m, rfl, rfl, mm, t7, t8, t9, t10, t12, t17, o4⟩ := hI
    by_cases hm : m ≤ last
    · have d2 : decide (m ≤ last) = true := decide_eq_true hm
      have w2 : wrapF .u64 (Int.ofNat m + Int.ofNat 1) = Int.ofNat (m + 1) := u64_add (by omega)
      repeat' (first | ((with_reducible refine st1 ?_); (conv => whnf); (with_reducible refine ⟨?_⟩)) | ((with_reducible refine retW_intro rfl ?_); (conv => arg 2; whnf)) | ((with_reducible first | refine iB ?_ ?_ | refine gWt ?_ ?_ | refine gWf ?_ ?_) <;> intro hb <;> (try simp only [hb])) | (simp only [B, xB, F, reduceLT, reduceLeDiff, reduceEqDiff, reduceAdd, reduceMul, reduceSub, ↓reduceIte, eq_self, t7, t8, t9, t10, t12, t17, d2, go1]))
      refine ((toldC h4 hk.nx Ry sy w A m (iy.keep o4) (hwh.only o4 (fun _ _ => by simp)) (by omega) (hfy m mm.1)).call P).mono P ?_
      rintro v5 h5 ⟨rfl, o5⟩
      repeat' (first | ((with_reducible refine st1 ?_); (conv => whnf); (with_reducible refine ⟨?_⟩)) | ((with_reducible refine retW_intro rfl ?_); (conv => arg 2; whnf)) | ((with_reducible first | refine iB ?_ ?_ | refine gWt ?_ ?_ | refine gWf ?_ ?_) <;> intro hb <;> (try simp only [hb])) | (simp only [B, xB, F, reduceLT, reduceLeDiff, reduceEqDiff, reduceAdd, reduceMul, reduceSub, ↓reduceIte, eq_self, t7, t8, t9, t10, t12, t17, w2, Bool.not_true, Bool.not_false]))
      exact ⟨last + 1 - (m + 1), by omega, m + 1, rfl, rfl, by omega, by simp only [B, xB, F, reduceLT, reduceLeDiff, reduceEqDiff, reduceAdd, reduceMul, reduceSub, ↓reduceIte, eq_self, t7], by simp only [B, xB, F, reduceLT, reduceLeDiff, reduceEqDiff, reduceAdd, reduceMul, reduceSub, ↓reduceIte, eq_self, t8], by simp only [B, xB, F, reduceLT, reduceLeDiff, reduceEqDiff, reduceAdd, reduceMul, reduceSub, ↓reduceIte, eq_self, t9], by simp only [B, xB, F, reduceLT, reduceLeDiff, reduceEqDiff, reduceAdd, reduceMul, reduceSub, ↓reduceIte, eq_self, t10], by simp only [B, xB, F, reduceLT, reduceLeDiff, reduceEqDiff, reduceAdd, reduceMul, reduceSub, ↓reduceIte, eq_self, t12], by simp only [B, xB, F, reduceLT, reduceLeDiff, reduceEqDiff, reduceAdd, reduceMul, reduceSub, ↓reduceIte, eq_self], o4.t o5⟩
    have d2 : decide (m ≤ last) = false := decide_eq_false hm
    have o44 := oo.t o4
    have x4 := o44.1
    have x5 := iy.ix.lt
    have x6 := o4.1
    have hbb : b < hk.nx := by have := ix.ix.lt; omega
    have ixx : IxR (fun c => c ≠ hk.nx) h4 b R s := (ix.keep ok).off o44 (fun c q => by cases q) (fun c hc _ => by omega) (fun c hc => by omega)
    repeat' (first | ((with_reducible refine st1 ?_); (conv => whnf); (with_reducible refine ⟨?_⟩)) | ((with_reducible refine retW_intro rfl ?_); (conv => arg 2; whnf)) | ((with_reducible first | refine iB ?_ ?_ | refine gWt ?_ ?_ | refine gWf ?_ ?_) <;> intro hb <;> (try simp only [hb])) | (simp only [B, xB, F, reduceLT, reduceLeDiff, reduceEqDiff, reduceAdd, reduceMul, reduceSub, ↓reduceIte, eq_self, t7, t8, t9, t10, t12, t17, d2]))
    refine ((compactC h4 b low R s ixx (fun p hp => (md.szp hp).le (by omega))).call P).mono P ?_
    rintro v6 h6 ⟨o6, g6, R6, s6, hR6, nb6, ix6⟩
    have go6 := g6.one
    have hss : ∀ c, blkOf s = some c → c < hk.nx := fun c e => by have := ix.ix.sl.blk c e; omega
    have iy6 : IxR (fun c => hk.nx ≤ c) h6 hk.nx Ry sy := (iy.keep o4).off o6 (fun c q => by
      rw [List.mem_singleton] at q; subst q
      exact ⟨by omega, fun e => by have := ys _ e; omega, fun _ => by omega⟩) (fun c _ q => q) (fun c hc => by have := o6.1; omega)
    have md6 := md.comp (fun k hk => (gi.good k hk).rising) hR6 ix6.ix.sr
    repeat' (first | ((with_reducible refine st1 ?_); (conv => whnf); (with_reducible refine ⟨?_⟩)) | ((with_reducible refine retW_intro rfl ?_); (conv => arg 2; whnf)) | ((with_reducible first | refine iB ?_ ?_ | refine gWt ?_ ?_ | refine gWf ?_ ?_) <;> intro hb <;> (try simp only [hb])) | (simp only [B, xB, F, reduceLT, reduceLeDiff, reduceEqDiff, reduceAdd, reduceMul, reduceSub, ↓reduceIte, eq_self, t7, t8, t9, t10, t12, t17, go6]))
    refine ((compactC h6 hk.nx low Ry sy iy6 (fun p hp => (my.szp hp).le (by omega))).call P).mono P ?_
    rintro v7 h7 ⟨o7, g7, R7, s7, hR7, nb7, iy7⟩
    have go7 := g7.one
    have x66 := o6.1
    have ix7 : IxR (fun c => c ≠ hk.nx) h7 b R6 s6 := ix6.off o7 (fun c q => by
      rw [List.mem_singleton] at q; subst q
      refine ⟨by omega, fun e => ?_, fun _ q => q rfl⟩
      rcases nb6 _ e with z | z
      · have := hss _ z; omega
      · omega) (fun c _ q => q) (fun c hc => by have := o7.1; omega)
    have md7 := (my.comp (fun k hk => (rs.good gi.good hk).rising) hR7 iy7.ix.sr).congr (D := fun k => W.compA (chK A k) low) (fun k hk => (hsk k hk).2)
    repeat' (first | (with_reducible refine stopZ ?_) | ((with_reducible refine st1 ?_); (conv => whnf); (with_reducible refine ⟨?_⟩)) | ((with_reducible refine retW_intro rfl ?_); (conv => arg 2; whnf)) | ((with_reducible first | refine iB ?_ ?_ | refine gWt ?_ ?_ | refine gWf ?_ ?_) <;> intro hb <;> (try simp only [hb])) | (simp only [B, xB, F, reduceLT, reduceLeDiff, reduceEqDiff, reduceAdd, reduceMul, reduceSub, ↓reduceIte, eq_self, t7, t8, t9, t10, t12, t17, go7]))
    refine keysLoop h7 b hk.nx R6 R7 s6 s7 _ ix7 iy7 md6 md7 _ (by simp only [B, xB, F, reduceLT, reduceLeDiff, reduceEqDiff, reduceAdd, reduceMul, reduceSub, ↓reduceIte, eq_self, t7]) (by simp only [B, xB, F, reduceLT, reduceLeDiff, reduceEqDiff, reduceAdd, reduceMul, reduceSub, ↓reduceIte, eq_self, t12]) _ ?_
    intro tm2 h8 o8 u7 u12
    clear t7 t8 t9 t10 t12 t17
    repeat' (first | ((with_reducible refine st1 ?_); (conv => whnf); (with_reducible refine ⟨?_⟩)) | ((with_reducible refine retW_intro rfl ?_); (conv => arg 2; whnf)) | ((with_reducible first | refine iB ?_ ?_ | refine gWt ?_ ?_ | refine gWf ?_ ?_) <;> intro hb <;> (try simp only [hb])) | (simp only [B, xB, F, reduceLT, reduceLeDiff, reduceEqDiff, reduceAdd, reduceMul, reduceSub, ↓reduceIte, eq_self, u7, u12]))
    refine ((lenC h8 b R6 s6 (ix7.keep o8)).call P).mono P ?_
    rintro v9 h9 ⟨rfl, o9⟩
    repeat' (first | ((with_reducible refine st1 ?_); (conv => whnf); (with_reducible refine ⟨?_⟩)) | ((with_reducible refine retW_intro rfl ?_); (conv => arg 2; whnf)) | ((with_reducible first | refine iB ?_ ?_ | refine gWt ?_ ?_ | refine gWf ?_ ?_) <;> intro hb <;> (try simp only [hb])) | (simp only [B, xB, F, reduceLT, reduceLeDiff, reduceEqDiff, reduceAdd, reduceMul, reduceSub, ↓reduceIte, eq_self, u7, u12]))
    refine ((lenC h9 hk.nx R7 s7 (iy7.keep (o8.t o9))).call P).mono P ?_
    rintro v10 h10 ⟨rfl, o10⟩
    have hle : R6.length = R7.length := by rw [md6.len, md7.len]
    have d9 : decide (R6.length = R7.length) = true := decide_eq_true hle
    repeat' (first | ((with_reducible refine st1 ?_); (conv => whnf); (with_reducible refine ⟨?_⟩)) | ((with_reducible refine retW_intro rfl ?_); (conv => arg 2; whnf)) | ((with_reducible first | refine iB ?_ ?_ | refine gWt ?_ ?_ | refine gWf ?_ ?_) <;> intro hb <;> (try simp only [hb])) | (simp only [B, xB, F, reduceLT, reduceLeDiff, reduceEqDiff, reduceAdd, reduceMul, reduceSub, ↓reduceIte, eq_self, u7, u12, d9]))
    refine worksC _ ?_
    repeat' (first | ((with_reducible refine st1 ?_); (conv => whnf); (with_reducible refine ⟨?_⟩)) | ((with_reducible refine retW_intro rfl ?_); (conv => arg 2; whnf)) | ((with_reducible first | refine iB ?_ ?_ | refine gWt ?_ ?_ | refine gWf ?_ ?_) <;> intro hb <;> (try simp only [hb])) | (simp only [B, xB, F, reduceLT, reduceLeDiff, reduceEqDiff, reduceAdd, reduceMul, reduceSub, ↓reduceIte, eq_self]))
    exact rfl
end
end Go.Proofs.Ytlkngpckibidlaa.X

namespace Go.Proofs.Ytlkngpckibidlaa.indexRestores
open Go.ChangeShapes Go.WideShapes Go.ChangeAt Go.RowKit
theorem own : ownKnob Try.prog.godebug = none := by kernel_rfl
theorem laidOut : laidOutB Try.prog = true := by kernel_rfl
theorem readable : ∀ t, t ∈ [22, 5, 5] → Try.prog.readableRec t = true ∧ t < Try.prog.types.size := by
  intro t ht
  simp only [List.mem_cons, List.mem_nil_iff, or_false] at ht
  rcases ht with rfl | rfl | rfl <;> exact ⟨by kernel_rfl, of_decide_eq_true (by kernel_rfl)⟩
set_option maxRecDepth 100000 in
theorem walk (M : World) (vl : AX.AV) (l : List Nat) (cv : Value) (a g : Nat) (hv : AX.VR (AX.absPhi M.heap.size) vl cv) (sl : AX.SliceAt (AX.absH M) vl l.length (W.u8s l)) (hl : ∀ n, n ∈ l → n < 256) (ha : a < 256) (hg : g < 256) :
    Calls Try.prog 10 #[cv, .int .u8 (.ofNat a), .int .u8 (.ofNat g)] M fun e w' => e = .returned (.bool true) ∧ Below M.heap.size M w' := by
  have hw := X.restoresW (AX.absH M) vl l a g sl hl ha hg
  refine (AX.calls_of_codeW (fn := Try.f10) (c := AX.bodyC Try.f10) Try.func10 rfl hw (AX.absH_rel M) (Nat.le_refl _) (cargs := #[cv, .int .u8 (.ofNat a), .int .u8 (.ofNat g)]) ⟨hv, by simp, by simp, trivial⟩).mono ?_
  rintro e1 w' ⟨N', φ', cv', v, h', _, rfl, hq, _, hv', _, hb⟩
  have hq : v = .bool true := hq
  subst hq
  rw [AX.VR_bool] at hv'; subst hv'
  exact ⟨rfl, hb⟩
set_option maxRecDepth 100000 in
theorem lifted (os : Os) (started : os.Started) (H : Type) (enc : TypeId × Value → H) :
    ReturnsInHanded {} Try.checked os 10 .any (Rows.indexRestoresSpec.pre6 enc Try.prog Try.f10 Rows.indexRestoresRow.domain false) (Rows.indexRestoresSpec.post enc Try.prog Try.f10 false true false false) := by
  refine returnsInHanded_of_change (C := Try.checked) own started (by kernel_rfl) Try.func10
    (ChangeSpec.witness6 (enc := enc) (C := Try.checked) false ⟨#[], #[.slice none 0 0, .int .u8 0, .int .u8 0], []⟩ 8 (by kernel_rfl) (by kernel_rfl) (by kernel_rfl) (by kernel_rfl)) ?_
  intro M base args ds gs before hval0 hW hcnd _
  have hW' := hW
  have hlt := hW.lt
  obtain ⟨p, q, hA0, hV, rfl, hfz, hnd⟩ := hW
  have hA : DataW.TrodAll enc Try.prog M 0 (fun _ => true) true Try.f10.params.toList args.toList ds p := hA0
  rw [Try.params10] at hA hval0
  have hA1 := hA
  obtain ⟨v0, vs0, d0, ds0, p0, q0, hargs, rfl, rfl, g0, r0⟩ := trodAll_cons hA
  obtain ⟨v1, vs1, d1, ds1, p1, q1, rfl, rfl, rfl, g1, r1⟩ := trodAll_cons r0
  obtain ⟨v2, vs2, d2, ds2, p2, q2, rfl, rfl, rfl, g2, r2⟩ := trodAll_cons r1
  obtain ⟨rfl, rfl, rfl⟩ := trodAll_nil r2
  obtain rfl : args = #[v0, v1, v2] := by cases args; simp_all
  obtain ⟨rfl, rfl⟩ := trodVars_none hV
  obtain ⟨vl, l, hv, sl, hl, _⟩ := AX.nats_arg (k := .u8) rfl X.u22 X.u5 (by kernel_rfl) (hval0 0 22 v0 rfl rfl) g0
  obtain ⟨e0, rfl, _, _, w0⟩ := open_int X.u5 (hval0 1 5 v1 rfl rfl) g1
  obtain ⟨a, rfl, ha⟩ := AX.wf_nat (k := .u8) rfl w0
  obtain ⟨e2, rfl, _, _, w2⟩ := open_int X.u5 (hval0 2 5 v2 rfl rfl) g2
  obtain ⟨g, rfl, hg⟩ := AX.wf_nat (k := .u8) rfl w2
  simp only [List.append_nil] at hW' hlt
  refine (walk M vl l v0 a g hv sl hl ha hg).mono fun e1 M' ⟨he, hb⟩ => ?_
  subst he
  exact ⟨_, rfl, _, [], _, [], _, [], hW', trodAll_cons_mk (shut_bool Try.underlying4 _) trodAll_mk0, AX.trodAll_below laidOut hb readable hA1 (fun p hp => hlt p (by simpa using hp)) _ (fun p hp => decide_eq_true (hlt p (by simpa using hp))), rfl, hb.frame _, fun h => by cases h⟩
theorem over : Rows.indexRestoresRow.holds Try.pinned (OpenSpec.ofChange Rows.indexRestoresSpec) :=
  OpenClaim.holds_of_wide 10 Try.f10 rfl rfl rfl rfl rfl rfl rfl ⟨rfl, rfl, rfl, rfl, rfl⟩ rfl rfl rfl rfl rfl (by kernel_rfl) Try.func10 (by kernel_rfl)
    (of_decide_eq_true (by kernel_rfl)) (by unfold Func.isWrapper; first | (rw [if_pos (by decide +kernel)]; kernel_rfl) | (rw [if_neg (by decide +kernel)]; exact ⟨rfl, rfl⟩))
    (fun os started H enc _ => lifted os started H enc)
theorem proved : Rows.IndexRestoresSaid := over
#print axioms proved
end Go.Proofs.Ytlkngpckibidlaa.indexRestores


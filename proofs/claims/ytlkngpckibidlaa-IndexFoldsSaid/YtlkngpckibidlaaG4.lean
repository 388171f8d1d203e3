/-
  index: law 8 (IndexFolds).
  'IndexFolds' returns true, whatever the input; each argument reads as it did. No condition.
-/
import Derived.Test.YtlkngpckibidlaaAxI
import Derived.Test.YtlkngpckibidlaaG3
import Derived.Test.YtlkngpckibidlaaRows
import Derived.OpenShut
set_option linter.unusedSimpArgs false
set_option linter.unusedVariables false
set_option linter.unusedSectionVars false
namespace Go.Proofs.Ytlkngpckibidlaa.X
open Go Go.AX
noncomputable section
set_option maxRecDepth 100000
theorem u59a : P.underlying 59 = some (.array 4 5) := by kernel_rfl
theorem co5 : P.cellsOf 5 = 1 := by kernel_rfl
theorem ia59 (b : Nat) (kd : IntKind) (i : Nat) (hi : i < 4) : indexAddrA P 59 (.ptr b 0) (.int kd (.ofNat i)) = some (.ptr b i) := by
  have hb : Nat.blt i 4 = true := by rw [Nat.blt_eq]; exact hi
  unfold indexAddrA
  simp only [u59a, hb, show okT P 5 = true from ok5, co5, Bool.true_and, Nat.zero_add, Nat.mul_one]
def Says8 (A : List Rc) (low : Nat) (C : Nat → List W.Ch) : Prop := ∀ k, k < 8 → W.Rising (C k) ∧ ∀ m, low ≤ m → W.isK (C k) m = W.isK (chK A k) m
theorem Says8.comp {A : List Rc} {low m : Nat} {C : Nat → List W.Ch} (h : Says8 A low C) (hm : low ≤ m) : Says8 A m fun k => W.compA (C k) m := fun k hk =>
  ⟨W.rising_comp (h k hk).1 m, fun j hj => by rw [W.isK_comp (h k hk).1 hj]; exact (h k hk).2 j (Nat.le_trans hm hj)⟩
theorem kept_in {A : List Rc} {m : Nat} {R : List Pr} (hf : Fits A m R) {i : Nat} (hi : i < 8) (h : isF (kk i) m A = true) : (outF (kk i) m A).rev ∈ keptL m R := by
  unfold keptL modsL
  rw [List.mem_mergeSort, hf.it_]
  refine List.mem_map.2 ⟨⟨kk i, (outF (kk i) m A).rev, (outF (kk i) m A).create, (outF (kk i) m A).version⟩, ?_, rfl⟩
  unfold gL
  exact List.mem_filterMap.2 ⟨i, List.mem_range.2 hi, by unfold gI; rw [h]; rfl⟩
theorem kept_len {A : List Rc} {m : Nat} {R : List Pr} (hf : Fits A m R) : (keptL m R).length = (gL A m 8).length := by
  unfold keptL modsL
  rw [List.length_mergeSort, List.length_map, hf.it_]
structure F8 (h0 h : H) (b bs : Nat) (hv : AV) (A : List Rc) (R : List Pr) (s : AV) (C : Nat → List W.Ch) (low : Nat) : Prop where
  oo : Only h0 h [b]
  ix : IxR (Fl bs hv) h b R s
  md : Mdl R C
  sy : Says8 A low C
  bs : ∀ c, blkOf s = some c → bs ≤ c
theorem F8.fits {h0 h : H} {b bs : Nat} {hv : AV} {A : List Rc} {R : List Pr} {s : AV} {C : Nat → List W.Ch} {low : Nat} (hF : F8 h0 h b bs hv A R s C low) {m : Nat} (hm : low ≤ m) : Fits A m R :=
  hF.md.fits fun k hk => (hF.sy k hk).2 m hm
structure M8 (c b : Nat) (hv : AV) (last : Nat) (hs : H) (n : Nat) (ds : List Nat) (tm : T AV) (h : H) (m : Nat) : Prop where
  ds : ds = []
  nn : n = last + 1 - m
  mm : m ≤ last + 1
  t3 : tm.get 3 = some (.ptr c 0)
  t5 : tm.get 5 = some (.ptr b 0)
  t6 : tm.get 6 = some hv
  t7 : tm.get 7 = some (.int .u64 (.ofNat last))
  t8 : tm.get 8 = some (.int .u64 (.ofNat m))
  oo : Only hs h []
structure L8 (c b bs : Nat) (hv : AV) (A : List Rc) (last : Nat) (hs : H) (n : Nat) (ds : List Nat) (tm : T AV) (h : H) (i : Nat) (R : List Pr) (s : AV) (C : Nat → List W.Ch) (low : Nat) : Prop where
  ds : ds = []
  nn : n = 4 - i
  ii : i ≤ 4
  t3 : tm.get 3 = some (.ptr c 0)
  t5 : tm.get 5 = some (.ptr b 0)
  t6 : tm.get 6 = some hv
  t7 : tm.get 7 = some (.int .u64 (.ofNat last))
  t9 : tm.get 9 = some (.int .u64 (.ofNat low))
  t10 : tm.get 10 = some (.int .i64 (.ofNat i))
  ff : F8 hs h b bs hv A R s C low
  ll : low ≤ last
structure N8 (c b : Nat) (hv : AV) (last low i : Nat) (hs : H) (n : Nat) (ds : List Nat) (tm : T AV) (h : H) (m : Nat) : Prop where
  ds : ds = []
  nn : n = last + 1 - m
  mm : low ≤ m ∧ m ≤ last + 1
  t3 : tm.get 3 = some (.ptr c 0)
  t5 : tm.get 5 = some (.ptr b 0)
  t6 : tm.get 6 = some hv
  t7 : tm.get 7 = some (.int .u64 (.ofNat last))
  t9 : tm.get 9 = some (.int .u64 (.ofNat low))
  t10 : tm.get 10 = some (.int .i64 (.ofNat i))
  t18 : tm.get 18 = some (.int .u64 (.ofNat m))
  oo : Only hs h []
theorem stopK {ds : List Nat} {tm : T AV} {h : H} {Q : KQ} (hw : Stop (codeW P 8 110 none (codeI (bodyC Try.f8) [0, 1, 1, 1, 0, 0, 1, 0, 0, 1, 0, 1, 1, 1, 1, 1, 1]) ds tm h Q)) : codeW P 8 110 none (codeI (bodyC Try.f8) [0, 1, 1, 1, 0, 0, 1, 0, 0, 1, 0, 1, 1, 1, 1, 1, 1]) ds tm h Q := hw
theorem foldsW (h0 : H) (vl : AV) (l : List Nat) (at_ : Nat → Nat) (sl : SliceAt h0 vl l.length (W.u8s l)) (hb : ∀ n, n ∈ l → n < 256) (ha : ∀ i, at_ i < 256) :
    codeW P 8 110 none (bodyC Try.f8) [] (T.fill .e 0 [vl, .agg [.int .u8 (.ofNat (at_ 0)), .int .u8 (.ofNat (at_ 1)), .int .u8 (.ofNat (at_ 2)), .int .u8 (.ofNat (at_ 3))]]) h0 (retK P Try.f8 PostTrue) := by
  refine codeW_root ?_
  obtain ⟨h1, h1e⟩ : ∃ h1, h1 = h0.newCells 59 [.int .u8 (.ofNat (at_ 0)), .int .u8 (.ofNat (at_ 1)), .int .u8 (.ofNat (at_ 2)), .int .u8 (.ofNat (at_ 3))] := ⟨_, rfl⟩
  have o1 : Only h0 h1 [] := by rw [h1e]; exact (Only.refl _ _).new _ _
  have x1 : h1.nx = h0.nx + 1 := by rw [h1e]; rfl
  have c1 : ∀ i, i < 4 → cellAt h1 h0.nx i = some (.int .u8 (.ofNat (at_ i))) := fun i hi => by
    rw [h1e, cellAt_new, if_pos rfl]
    match i, hi with
    | 0, _ => rfl
    | 1, _ => rfl
    | 2, _ => rfl
    | 3, _ => rfl
  have ho := W.SliceAt.one sl
  repeat' (first | ((with_reducible refine st1 ?_); (conv => whnf); (with_reducible refine ⟨?_⟩)) | ((with_reducible refine retW_intro rfl ?_); (conv => arg 2; whnf)) | ((with_reducible first | refine iB ?_ ?_ | refine gWt ?_ ?_ | refine gWf ?_ ?_) <;> intro hb <;> (try simp only [hb])) | (simp only [B, xB, F, Nat.reduceLT, Nat.reduceLeDiff, Nat.reduceEqDiff, Nat.reduceAdd, Nat.reduceMul, Nat.reduceSub, ↓reduceIte, eq_self, ← h1e, ho]))
  refine ((grownC h1 vl l (sl.only o1 (fun _ _ => by simp)) hb).call P).mono P ?_
  rintro v hs ⟨b, w, R, s, bs, rfl, os, hb1, hb2, ix, hsb, gr, md, gi⟩
  obtain ⟨A, hA⟩ : ∃ A, A = growA l (min 60 l.length) := ⟨_, rfl⟩
  rw [← hA] at gr md gi
  have hA60 : A.length ≤ 60 := Nat.le_trans gi.len (Nat.min_le_left _ _)
  have hlen := gr.slice.len (P := P) u61
  have go1 := gr.one
  obtain ⟨last, hlast⟩ : ∃ last, last = A.length / 2 + 3 := ⟨_, rfl⟩
  have e1 : wrapF .i64 (Int.ofNat (A.length / 2)) = Int.ofNat (A.length / 2) := W.i64_nat (by omega)
  have e2 : wrapF .u64 (Int.ofNat (A.length / 2)) = Int.ofNat (A.length / 2) := W.u64_nat (by omega)
  have e3 : wrapF .u64 (Int.ofNat (A.length / 2) + Int.ofNat 3) = Int.ofNat last := by rw [hlast]; exact u64_add (by omega)
  repeat' (first | ((with_reducible refine st1 ?_); (conv => whnf); (with_reducible refine ⟨?_⟩)) | ((with_reducible refine retW_intro rfl ?_); (conv => arg 2; whnf)) | ((with_reducible first | refine iB ?_ ?_ | refine gWt ?_ ?_ | refine gWf ?_ ?_) <;> intro hb <;> (try simp only [hb])) | (simp only [B, xB, F, Nat.reduceLT, Nat.reduceLeDiff, Nat.reduceEqDiff, Nat.reduceAdd, Nat.reduceMul, Nat.reduceSub, ↓reduceIte, eq_self, go1, hlen, e1, e2, e3, b_quo _ _ _ (nat_ne_zero (show 0 < 2 by omega))]))
  have hw61 := gr.slice
  have bsw : ∀ c, blkOf w = some c → bs ≤ c := fun c e => (gr.base e).1
  have xs := os.1
  refine st_loop (fun n ds tm h => ∃ m, M8 h0.nx b w last hs n ds tm h m) (last + 1) rfl ⟨0, rfl, rfl, Nat.zero_le _, by simp only [B, xB, F, Nat.reduceLT, Nat.reduceLeDiff, Nat.reduceEqDiff, Nat.reduceAdd, Nat.reduceMul, Nat.reduceSub, ↓reduceIte, eq_self], by simp only [B, xB, F, Nat.reduceLT, Nat.reduceLeDiff, Nat.reduceEqDiff, Nat.reduceAdd, Nat.reduceMul, Nat.reduceSub, ↓reduceIte, eq_self], by simp only [B, xB, F, Nat.reduceLT, Nat.reduceLeDiff, Nat.reduceEqDiff, Nat.reduceAdd, Nat.reduceMul, Nat.reduceSub, ↓reduceIte, eq_self], by simp only [B, xB, F, Nat.reduceLT, Nat.reduceLeDiff, Nat.reduceEqDiff, Nat.reduceAdd, Nat.reduceMul, Nat.reduceSub, ↓reduceIte, eq_self], by simp only [B, xB, F, Nat.reduceLT, Nat.reduceLeDiff, Nat.reduceEqDiff, Nat.reduceAdd, Nat.reduceMul, Nat.reduceSub, ↓reduceIte, eq_self], Only.refl _ _⟩ (fun n ds tm h hI => ?_)
  obtain ⟨m, rfl, rfl, mm, t3, t5, t6, t7, t8, oo⟩ := hI
  by_cases hm : m ≤ last
  · have d1 : decide (m ≤ last) = true := decide_eq_true hm
    have w1 : wrapF .u64 (Int.ofNat m + Int.ofNat 1) = Int.ofNat (m + 1) := u64_add (by omega)
    repeat' (first | ((with_reducible refine st1 ?_); (conv => whnf); (with_reducible refine ⟨?_⟩)) | ((with_reducible refine retW_intro rfl ?_); (conv => arg 2; whnf)) | ((with_reducible first | refine iB ?_ ?_ | refine gWt ?_ ?_ | refine gWf ?_ ?_) <;> intro hb <;> (try simp only [hb])) | (simp only [B, xB, F, Nat.reduceLT, Nat.reduceLeDiff, Nat.reduceEqDiff, Nat.reduceAdd, Nat.reduceMul, Nat.reduceSub, ↓reduceIte, eq_self, t3, t5, t6, t7, t8, d1, go1]))
    refine ((toldC h b R s w A m (ix.keep oo) (hw61.only oo (fun _ _ => by simp)) (by omega) (md.fits fun k _ => rfl)).call P).mono P ?_
    rintro v h2 ⟨rfl, o2⟩
    repeat' (first | ((with_reducible refine st1 ?_); (conv => whnf); (with_reducible refine ⟨?_⟩)) | ((with_reducible refine retW_intro rfl ?_); (conv => arg 2; whnf)) | ((with_reducible first | refine iB ?_ ?_ | refine gWt ?_ ?_ | refine gWf ?_ ?_) <;> intro hb <;> (try simp only [hb])) | (simp only [B, xB, F, Nat.reduceLT, Nat.reduceLeDiff, Nat.reduceEqDiff, Nat.reduceAdd, Nat.reduceMul, Nat.reduceSub, ↓reduceIte, eq_self, t3, t5, t6, t7, t8, w1, Bool.not_true, Bool.not_false]))
    exact ⟨last + 1 - (m + 1), by omega, m + 1, rfl, rfl, by omega, by simp only [B, xB, F, Nat.reduceLT, Nat.reduceLeDiff, Nat.reduceEqDiff, Nat.reduceAdd, Nat.reduceMul, Nat.reduceSub, ↓reduceIte, eq_self, t3], by simp only [B, xB, F, Nat.reduceLT, Nat.reduceLeDiff, Nat.reduceEqDiff, Nat.reduceAdd, Nat.reduceMul, Nat.reduceSub, ↓reduceIte, eq_self, t5], by simp only [B, xB, F, Nat.reduceLT, Nat.reduceLeDiff, Nat.reduceEqDiff, Nat.reduceAdd, Nat.reduceMul, Nat.reduceSub, ↓reduceIte, eq_self, t6], by simp only [B, xB, F, Nat.reduceLT, Nat.reduceLeDiff, Nat.reduceEqDiff, Nat.reduceAdd, Nat.reduceMul, Nat.reduceSub, ↓reduceIte, eq_self, t7], by simp only [B, xB, F, Nat.reduceLT, Nat.reduceLeDiff, Nat.reduceEqDiff, Nat.reduceAdd, Nat.reduceMul, Nat.reduceSub, ↓reduceIte, eq_self], oo.t o2⟩
  have d1 : decide (m ≤ last) = false := decide_eq_false hm
  have sy0 : Says8 A 0 (chK A) := fun k hk => ⟨(gi.good k hk).rising, fun _ _ => rfl⟩
  repeat' (first | ((with_reducible refine st1 ?_); (conv => whnf); (with_reducible refine ⟨?_⟩)) | ((with_reducible refine retW_intro rfl ?_); (conv => arg 2; whnf)) | ((with_reducible first | refine iB ?_ ?_ | refine gWt ?_ ?_ | refine gWf ?_ ?_) <;> intro hb <;> (try simp only [hb])) | (simp only [B, xB, F, Nat.reduceLT, Nat.reduceLeDiff, Nat.reduceEqDiff, Nat.reduceAdd, Nat.reduceMul, Nat.reduceSub, ↓reduceIte, eq_self, t3, t5, t6, t7, t8, d1]))
  refine st_loop (fun n ds tm h => ∃ i R s C low, L8 h0.nx b bs w A last hs n ds tm h i R s C low) 4 rfl ⟨0, R, s, chK A, 0, rfl, rfl, Nat.zero_le _, by simp only [B, xB, F, Nat.reduceLT, Nat.reduceLeDiff, Nat.reduceEqDiff, Nat.reduceAdd, Nat.reduceMul, Nat.reduceSub, ↓reduceIte, eq_self, t3], by simp only [B, xB, F, Nat.reduceLT, Nat.reduceLeDiff, Nat.reduceEqDiff, Nat.reduceAdd, Nat.reduceMul, Nat.reduceSub, ↓reduceIte, eq_self, t5], by simp only [B, xB, F, Nat.reduceLT, Nat.reduceLeDiff, Nat.reduceEqDiff, Nat.reduceAdd, Nat.reduceMul, Nat.reduceSub, ↓reduceIte, eq_self, t6], by simp only [B, xB, F, Nat.reduceLT, Nat.reduceLeDiff, Nat.reduceEqDiff, Nat.reduceAdd, Nat.reduceMul, Nat.reduceSub, ↓reduceIte, eq_self, t7], by simp only [B, xB, F, Nat.reduceLT, Nat.reduceLeDiff, Nat.reduceEqDiff, Nat.reduceAdd, Nat.reduceMul, Nat.reduceSub, ↓reduceIte, eq_self], by simp only [B, xB, F, Nat.reduceLT, Nat.reduceLeDiff, Nat.reduceEqDiff, Nat.reduceAdd, Nat.reduceMul, Nat.reduceSub, ↓reduceIte, eq_self], ⟨Only.wide oo, ix.keep oo, md, sy0, hsb⟩, Nat.zero_le _⟩ (fun n ds tm h hI => ?_)
  clear t3 t5 t6 t7 t8 oo d1 hm mm m ix md sy0 hsb
  obtain ⟨i, R, s, C, low, rfl, rfl, ii, t3, t5, t6, t7, t9, t10, ff, ll⟩ := hI
  have oo := ff.oo
  by_cases hi : i < 4
  · have d1 : decide (i < 4) = true := decide_eq_true hi
    have w1 : wrapF .i64 (Int.ofNat i + Int.ofNat 1) = Int.ofNat (i + 1) := i64_add (by omega)
    have ca := W.kcell (W.kcell (c1 i hi) os (by omega) (by simp)) oo (by omega) (by simp; omega)
    have ai := fun kd => ia59 h0.nx kd i hi
    have hai := ha i
    obtain ⟨q, hq⟩ : ∃ q, q = at_ i % (last + 1) := ⟨_, rfl⟩
    have hql : q < last + 1 := by rw [hq]; exact Nat.mod_lt _ (by omega)
    obtain ⟨lo2, hlo⟩ : ∃ lo2, lo2 = if low < q then q else low := ⟨_, rfl⟩
    have hle : low ≤ lo2 ∧ lo2 ≤ last := by rw [hlo]; split <;> omega
    have e4 : wrapF .u64 (Int.ofNat (at_ i)) = Int.ofNat (at_ i) := W.u64_nat (by omega)
    have e5 : wrapF .u64 (Int.ofNat last + Int.ofNat 1) = Int.ofNat (last + 1) := u64_add (by omega)
    have e6 : Int.tmod (Int.ofNat (at_ i)) (Int.ofNat (last + 1)) = Int.ofNat q := by rw [hq]; rfl
    have e7 : (if Int.ofNat low < Int.ofNat q then Int.ofNat q else Int.ofNat low) = Int.ofNat lo2 := by
      rw [hlo]
      by_cases z : low < q
      · rw [if_pos z, if_pos (by simp; exact z)]
      · rw [if_neg z, if_neg (by simp; omega)]
    repeat' (first | ((with_reducible refine st1 ?_); (conv => whnf); (with_reducible refine ⟨?_⟩)) | ((with_reducible refine retW_intro rfl ?_); (conv => arg 2; whnf)) | ((with_reducible first | refine iB ?_ ?_ | refine gWt ?_ ?_ | refine gWf ?_ ?_) <;> intro hb <;> (try simp only [hb])) | (simp only [B, xB, F, Nat.reduceLT, Nat.reduceLeDiff, Nat.reduceEqDiff, Nat.reduceAdd, Nat.reduceMul, Nat.reduceSub, ↓reduceIte, eq_self, t3, t5, t6, t7, t9, t10, d1, ai, ca, e4, e5, e6, e7, b_rem _ _ _ (nat_ne_zero (show 0 < last + 1 by omega)), ← hq]))
    refine ((compactC h b lo2 R s ff.ix (fun p hp => (ff.md.szp hp).le (by omega))).call P).mono P ?_
    rintro v h2 ⟨o2, g2, R2, s2, hR2, nb2, ix2⟩
    have x0 := oo.1
    have x2 := o2.1
    have go2 := g2.one
    have hf2 := ff.fits hle.1
    have md2 := ff.md.comp (fun k hk => (ff.sy k hk).1) hR2 ix2.ix.sr
    have sy2 := ff.sy.comp hle.1
    have ff2 : F8 hs h2 b bs w A R2 s2 (fun k => W.compA (C k) lo2) lo2 := ⟨⟨by omega, fun c hc hn => by rw [o2.2 c (by omega) hn, oo.2 c hc hn]⟩, ix2, md2, sy2, fun c e => by
      rcases nb2 c e with z | z
      · exact ff.bs c z
      · have := (ff.ix.ix.fl h.nx (Nat.le_refl _)).1; omega⟩
    have hA2 : SliceAt h2 w A.length (hsC A) := hw61.only ff2.oo (fun c e => by have := bsw c e; simp; omega)
    repeat' (first | (with_reducible refine stopK ?_) | ((with_reducible refine st1 ?_); (conv => whnf); (with_reducible refine ⟨?_⟩)) | ((with_reducible refine retW_intro rfl ?_); (conv => arg 2; whnf)) | ((with_reducible first | refine iB ?_ ?_ | refine gWt ?_ ?_ | refine gWf ?_ ?_) <;> intro hb <;> (try simp only [hb])) | (simp only [B, xB, F, Nat.reduceLT, Nat.reduceLeDiff, Nat.reduceEqDiff, Nat.reduceAdd, Nat.reduceMul, Nat.reduceSub, ↓reduceIte, eq_self, t3, t5, t6, t7, t9, t10, go2]))
    refine keptLoop h2 w v A lo2 (keptL lo2 R) hA2 (by omega) g2.slice (by rw [kept_len hf2]; have := gL_len A lo2 8; omega) (fun i hi h => kept_in hf2 hi h) _ (by simp only [B, xB, F, Nat.reduceLT, Nat.reduceLeDiff, Nat.reduceEqDiff, Nat.reduceAdd, Nat.reduceMul, Nat.reduceSub, ↓reduceIte, eq_self, t6]) (by simp only [B, xB, F, Nat.reduceLT, Nat.reduceLeDiff, Nat.reduceEqDiff, Nat.reduceAdd, Nat.reduceMul, Nat.reduceSub, ↓reduceIte, eq_self]) (by simp only [B, xB, F, Nat.reduceLT, Nat.reduceLeDiff, Nat.reduceEqDiff, Nat.reduceAdd, Nat.reduceMul, Nat.reduceSub, ↓reduceIte, eq_self]) (by simp only [B, xB, F, Nat.reduceLT, Nat.reduceLeDiff, Nat.reduceEqDiff, Nat.reduceAdd, Nat.reduceMul, Nat.reduceSub, ↓reduceIte, eq_self]) _ ?_
    intro tm2 h3 o3 ⟨s3, s5, s7, s10⟩ u6 u9 u11 u12
    have u3 : tm2.get 3 = some (.ptr h0.nx 0) := by rw [s3]; simp only [B, xB, F, Nat.reduceLT, Nat.reduceLeDiff, Nat.reduceEqDiff, Nat.reduceAdd, Nat.reduceMul, Nat.reduceSub, ↓reduceIte, eq_self, t3]
    have u5 : tm2.get 5 = some (.ptr b 0) := by rw [s5]; simp only [B, xB, F, Nat.reduceLT, Nat.reduceLeDiff, Nat.reduceEqDiff, Nat.reduceAdd, Nat.reduceMul, Nat.reduceSub, ↓reduceIte, eq_self, t5]
    have u7 : tm2.get 7 = some (.int .u64 (.ofNat last)) := by rw [s7]; simp only [B, xB, F, Nat.reduceLT, Nat.reduceLeDiff, Nat.reduceEqDiff, Nat.reduceAdd, Nat.reduceMul, Nat.reduceSub, ↓reduceIte, eq_self, t7]
    have u10 : tm2.get 10 = some (.int .i64 (.ofNat i)) := by rw [s10]; simp only [B, xB, F, Nat.reduceLT, Nat.reduceLeDiff, Nat.reduceEqDiff, Nat.reduceAdd, Nat.reduceMul, Nat.reduceSub, ↓reduceIte, eq_self, t10]
    clear s3 s5 s7 s10 t3 t5 t6 t7 t9 t10
    have ff3 : F8 hs h3 b bs w A R2 s2 (fun k => W.compA (C k) lo2) lo2 := ⟨⟨by have := o3.1; omega, fun c hc hn => by rw [o3.2 c (by omega) (by simp), ff2.oo.2 c hc hn]⟩, ix2.keep o3, md2, sy2, ff2.bs⟩
    have hlk : v.one = true := go2
    have hlen2 := (g2.slice).len (P := P) u29
    rw [kept_len hf2] at hlen2
    have x3 := o3.1
    repeat' (first | ((with_reducible refine st1 ?_); (conv => whnf); (with_reducible refine ⟨?_⟩)) | ((with_reducible refine retW_intro rfl ?_); (conv => arg 2; whnf)) | ((with_reducible first | refine iB ?_ ?_ | refine gWt ?_ ?_ | refine gWf ?_ ?_) <;> intro hb <;> (try simp only [hb])) | (simp only [B, xB, F, Nat.reduceLT, Nat.reduceLeDiff, Nat.reduceEqDiff, Nat.reduceAdd, Nat.reduceMul, Nat.reduceSub, ↓reduceIte, eq_self, u3, u5, u6, u7, u9, u10, u11, u12, hlen2]))
    refine st_loop (fun n ds tm h => ∃ m, N8 h0.nx b w last lo2 i h3 n ds tm h m) (last + 1 - lo2) rfl ⟨lo2, rfl, rfl, ⟨Nat.le_refl _, by omega⟩, by simp only [B, xB, F, Nat.reduceLT, Nat.reduceLeDiff, Nat.reduceEqDiff, Nat.reduceAdd, Nat.reduceMul, Nat.reduceSub, ↓reduceIte, eq_self, u3], by simp only [B, xB, F, Nat.reduceLT, Nat.reduceLeDiff, Nat.reduceEqDiff, Nat.reduceAdd, Nat.reduceMul, Nat.reduceSub, ↓reduceIte, eq_self, u5], by simp only [B, xB, F, Nat.reduceLT, Nat.reduceLeDiff, Nat.reduceEqDiff, Nat.reduceAdd, Nat.reduceMul, Nat.reduceSub, ↓reduceIte, eq_self, u6], by simp only [B, xB, F, Nat.reduceLT, Nat.reduceLeDiff, Nat.reduceEqDiff, Nat.reduceAdd, Nat.reduceMul, Nat.reduceSub, ↓reduceIte, eq_self, u7], by simp only [B, xB, F, Nat.reduceLT, Nat.reduceLeDiff, Nat.reduceEqDiff, Nat.reduceAdd, Nat.reduceMul, Nat.reduceSub, ↓reduceIte, eq_self, u9], by simp only [B, xB, F, Nat.reduceLT, Nat.reduceLeDiff, Nat.reduceEqDiff, Nat.reduceAdd, Nat.reduceMul, Nat.reduceSub, ↓reduceIte, eq_self, u10], by simp only [B, xB, F, Nat.reduceLT, Nat.reduceLeDiff, Nat.reduceEqDiff, Nat.reduceAdd, Nat.reduceMul, Nat.reduceSub, ↓reduceIte, eq_self], Only.refl _ _⟩ (fun n ds tm h4 hI => ?_)
    clear u3 u5 u6 u7 u9 u10 u11 u12
    obtain ⟨m, rfl, rfl, mm, t3, t5, t6, t7, t9, t10, t18, o4⟩ := hI
    have ff4 : F8 hs h4 b bs w A R2 s2 (fun k => W.compA (C k) lo2) lo2 := ⟨⟨by have := o4.1; omega, fun c hc hn => by rw [o4.2 c (by omega) (by simp), ff3.oo.2 c hc hn]⟩, ff3.ix.keep o4, md2, sy2, ff2.bs⟩
    by_cases hm : m ≤ last
    · have d2 : decide (m ≤ last) = true := decide_eq_true hm
      have w2 : wrapF .u64 (Int.ofNat m + Int.ofNat 1) = Int.ofNat (m + 1) := u64_add (by omega)
      repeat' (first | ((with_reducible refine st1 ?_); (conv => whnf); (with_reducible refine ⟨?_⟩)) | ((with_reducible refine retW_intro rfl ?_); (conv => arg 2; whnf)) | ((with_reducible first | refine iB ?_ ?_ | refine gWt ?_ ?_ | refine gWf ?_ ?_) <;> intro hb <;> (try simp only [hb])) | (simp only [B, xB, F, Nat.reduceLT, Nat.reduceLeDiff, Nat.reduceEqDiff, Nat.reduceAdd, Nat.reduceMul, Nat.reduceSub, ↓reduceIte, eq_self, t3, t5, t6, t7, t9, t10, t18, d2, go1]))
      refine ((toldC h4 b R2 s2 w A m ff4.ix (hA2.only (o3.t o4) (fun _ _ => by simp)) (by omega) (ff4.fits mm.1)).call P).mono P ?_
      rintro v5 h5 ⟨rfl, o5⟩
      repeat' (first | ((with_reducible refine st1 ?_); (conv => whnf); (with_reducible refine ⟨?_⟩)) | ((with_reducible refine retW_intro rfl ?_); (conv => arg 2; whnf)) | ((with_reducible first | refine iB ?_ ?_ | refine gWt ?_ ?_ | refine gWf ?_ ?_) <;> intro hb <;> (try simp only [hb])) | (simp only [B, xB, F, Nat.reduceLT, Nat.reduceLeDiff, Nat.reduceEqDiff, Nat.reduceAdd, Nat.reduceMul, Nat.reduceSub, ↓reduceIte, eq_self, t3, t5, t6, t7, t9, t10, t18, w2, Bool.not_true, Bool.not_false]))
      exact ⟨last + 1 - (m + 1), by omega, m + 1, rfl, rfl, by omega, by simp only [B, xB, F, Nat.reduceLT, Nat.reduceLeDiff, Nat.reduceEqDiff, Nat.reduceAdd, Nat.reduceMul, Nat.reduceSub, ↓reduceIte, eq_self, t3], by simp only [B, xB, F, Nat.reduceLT, Nat.reduceLeDiff, Nat.reduceEqDiff, Nat.reduceAdd, Nat.reduceMul, Nat.reduceSub, ↓reduceIte, eq_self, t5], by simp only [B, xB, F, Nat.reduceLT, Nat.reduceLeDiff, Nat.reduceEqDiff, Nat.reduceAdd, Nat.reduceMul, Nat.reduceSub, ↓reduceIte, eq_self, t6], by simp only [B, xB, F, Nat.reduceLT, Nat.reduceLeDiff, Nat.reduceEqDiff, Nat.reduceAdd, Nat.reduceMul, Nat.reduceSub, ↓reduceIte, eq_self, t7], by simp only [B, xB, F, Nat.reduceLT, Nat.reduceLeDiff, Nat.reduceEqDiff, Nat.reduceAdd, Nat.reduceMul, Nat.reduceSub, ↓reduceIte, eq_self, t9], by simp only [B, xB, F, Nat.reduceLT, Nat.reduceLeDiff, Nat.reduceEqDiff, Nat.reduceAdd, Nat.reduceMul, Nat.reduceSub, ↓reduceIte, eq_self, t10], by simp only [B, xB, F, Nat.reduceLT, Nat.reduceLeDiff, Nat.reduceEqDiff, Nat.reduceAdd, Nat.reduceMul, Nat.reduceSub, ↓reduceIte, eq_self], o4.t o5⟩
    have d2 : decide (m ≤ last) = false := decide_eq_false hm
    repeat' (first | ((with_reducible refine st1 ?_); (conv => whnf); (with_reducible refine ⟨?_⟩)) | ((with_reducible refine retW_intro rfl ?_); (conv => arg 2; whnf)) | ((with_reducible first | refine iB ?_ ?_ | refine gWt ?_ ?_ | refine gWf ?_ ?_) <;> intro hb <;> (try simp only [hb])) | (simp only [B, xB, F, Nat.reduceLT, Nat.reduceLeDiff, Nat.reduceEqDiff, Nat.reduceAdd, Nat.reduceMul, Nat.reduceSub, ↓reduceIte, eq_self, t3, t5, t6, t7, t9, t10, t18, d2, w1]))
    exact ⟨4 - (i + 1), by omega, i + 1, R2, s2, _, lo2, rfl, rfl, hi, by simp only [B, xB, F, Nat.reduceLT, Nat.reduceLeDiff, Nat.reduceEqDiff, Nat.reduceAdd, Nat.reduceMul, Nat.reduceSub, ↓reduceIte, eq_self, t3], by simp only [B, xB, F, Nat.reduceLT, Nat.reduceLeDiff, Nat.reduceEqDiff, Nat.reduceAdd, Nat.reduceMul, Nat.reduceSub, ↓reduceIte, eq_self, t5], by simp only [B, xB, F, Nat.reduceLT, Nat.reduceLeDiff, Nat.reduceEqDiff, Nat.reduceAdd, Nat.reduceMul, Nat.reduceSub, ↓reduceIte, eq_self, t6], by simp only [B, xB, F, Nat.reduceLT, Nat.reduceLeDiff, Nat.reduceEqDiff, Nat.reduceAdd, Nat.reduceMul, Nat.reduceSub, ↓reduceIte, eq_self, t7], by simp only [B, xB, F, Nat.reduceLT, Nat.reduceLeDiff, Nat.reduceEqDiff, Nat.reduceAdd, Nat.reduceMul, Nat.reduceSub, ↓reduceIte, eq_self, t9], by simp only [B, xB, F, Nat.reduceLT, Nat.reduceLeDiff, Nat.reduceEqDiff, Nat.reduceAdd, Nat.reduceMul, Nat.reduceSub, ↓reduceIte, eq_self], ff4, hle.2⟩
  · have d1 : decide (i < 4) = false := decide_eq_false hi
    repeat' (first | ((with_reducible refine st1 ?_); (conv => whnf); (with_reducible refine ⟨?_⟩)) | ((with_reducible refine retW_intro rfl ?_); (conv => arg 2; whnf)) | ((with_reducible first | refine iB ?_ ?_ | refine gWt ?_ ?_ | refine gWf ?_ ?_) <;> intro hb <;> (try simp only [hb])) | (simp only [B, xB, F, Nat.reduceLT, Nat.reduceLeDiff, Nat.reduceEqDiff, Nat.reduceAdd, Nat.reduceMul, Nat.reduceSub, ↓reduceIte, eq_self, t10, d1]))
    refine worksC _ ?_
    repeat' (first | ((with_reducible refine st1 ?_); (conv => whnf); (with_reducible refine ⟨?_⟩)) | ((with_reducible refine retW_intro rfl ?_); (conv => arg 2; whnf)) | ((with_reducible first | refine iB ?_ ?_ | refine gWt ?_ ?_ | refine gWf ?_ ?_) <;> intro hb <;> (try simp only [hb])) | (simp only [B, xB, F, Nat.reduceLT, Nat.reduceLeDiff, Nat.reduceEqDiff, Nat.reduceAdd, Nat.reduceMul, Nat.reduceSub, ↓reduceIte, eq_self]))
    exact rfl
end
end Go.Proofs.Ytlkngpckibidlaa.X

namespace Go.Proofs.Ytlkngpckibidlaa.X
open Go Go.AX
noncomputable section
set_option maxRecDepth 100000
theorem arr_arg {K : Type} {enc : TypeId × Value → K} {w : World} {b : Nat} {sp : Nat → Bool} {hd : Bool} {r : Go.Reach} {b0 : Nat} {v : Value} (hval : Value.okWide P w r b0 59 v) {d : DataW K} {ps : List MemPlace} (h : DataW.Trod enc P w b sp hd 59 v d ps) :
    ∃ a : Nat → Nat, (∀ i, a i < 256) ∧ v = .agg ([(IntKind.u8, a 0), (.u8, a 1), (.u8, a 2), (.u8, a 3)].map natV).toArray := by
  have hu : P.underlying 59 = some (.array 4 5) := u59a
  have hv : ∃ cs, v = .agg cs ∧ cs.size = 4 := by
    simp only [Value.okWide, hu] at hval
    obtain ⟨cs, h1, h2, _⟩ := hval
    exact ⟨cs, h1, by rw [h2]; kernel_rfl⟩
  obtain ⟨cs, rfl, hl⟩ := hv
  obtain ⟨fuel, hf⟩ := h
  obtain ⟨xs, m, _, _, _, _, hx⟩ := DataW.trod_array hu hf
  have hc : P.cellsOf 5 = 1 := co5
  have he : ∀ i, i < 4 → ∃ n : Nat, cs.toList[i]? = some (.int .u8 (.ofNat n)) ∧ n < 256 := fun i hi => by
    have h1 := hx i hi
    rw [hc, Nat.mul_one] at h1
    have hli : i < xs.length := by omega
    rw [List.getElem?_eq_getElem hli] at h1
    obtain ⟨n, e, hn⟩ := trod_nat (k := .u8) rfl u5 h1
    refine ⟨n, ?_, hn⟩
    have hlt : i < cs.toList.length := by rw [Array.length_toList, hl]; exact hi
    have e2 : (List.drop i (Value.agg cs).cells.toList).take 1 = [.int .u8 (.ofNat n)] := e
    have e3 : (Value.agg cs).cells.toList = cs.toList := rfl
    rw [e3] at e2
    have := congrArg (fun l => l[0]?) e2
    simpa [List.getElem?_take, List.getElem?_drop] using this
  obtain ⟨n0, e0, q0⟩ := he 0 (by omega)
  obtain ⟨n1, e1, q1⟩ := he 1 (by omega)
  obtain ⟨n2, e2, q2⟩ := he 2 (by omega)
  obtain ⟨n3, e3, q3⟩ := he 3 (by omega)
  refine ⟨fun i => if i = 0 then n0 else if i = 1 then n1 else if i = 2 then n2 else n3, fun i => by simp only; split; exact q0; split; exact q1; split; exact q2; exact q3, ?_⟩
  have hcl : cs.toList = [.int .u8 (.ofNat n0), .int .u8 (.ofNat n1), .int .u8 (.ofNat n2), .int .u8 (.ofNat n3)] := by
    have hl2 : cs.toList.length = 4 := by rw [Array.length_toList]; exact hl
    apply List.ext_getElem?
    intro i
    match i with
    | 0 => exact e0
    | 1 => exact e1
    | 2 => exact e2
    | 3 => exact e3
    | i + 4 => rw [List.getElem?_eq_none (by omega)]; rfl
  have : cs = cs.toList.toArray := by simp
  rw [this, hcl]; rfl
end
end Go.Proofs.Ytlkngpckibidlaa.X
namespace Go.Proofs.Ytlkngpckibidlaa.indexFolds
open Go.ChangeShapes Go.WideShapes Go.ChangeAt Go.RowKit
theorem own : ownKnob Try.prog.godebug = none := by kernel_rfl
theorem laidOut : laidOutB Try.prog = true := by kernel_rfl
theorem readable : ∀ t, t ∈ [22, 59] → Try.prog.readableRec t = true ∧ t < Try.prog.types.size := by
  intro t ht
  simp only [List.mem_cons, List.mem_nil_iff, or_false] at ht
  rcases ht with rfl | rfl <;> exact ⟨by kernel_rfl, of_decide_eq_true (by kernel_rfl)⟩
set_option maxRecDepth 100000 in
theorem walk (M : World) (vl : AX.AV) (l : List Nat) (cv : Value) (a : Nat → Nat) (hv : AX.VR (AX.absPhi M.heap.size) vl cv) (sl : AX.SliceAt (AX.absH M) vl l.length (W.u8s l)) (hl : ∀ n, n ∈ l → n < 256) (ha : ∀ i, a i < 256) :
    Calls Try.prog 8 #[cv, .agg ([(IntKind.u8, a 0), (.u8, a 1), (.u8, a 2), (.u8, a 3)].map AX.natV).toArray] M fun e w' => e = .returned (.bool true) ∧ Below M.heap.size M w' := by
  have hw := X.foldsW (AX.absH M) vl l a sl hl ha
  refine (AX.calls_of_codeW (fn := Try.f8) (c := AX.bodyC Try.f8) Try.func8 rfl hw (AX.absH_rel M) (Nat.le_refl _) (cargs := #[cv, .agg ([(IntKind.u8, a 0), (.u8, a 1), (.u8, a 2), (.u8, a 3)].map AX.natV).toArray]) ⟨hv, AX.agg_nats [(IntKind.u8, a 0), (.u8, a 1), (.u8, a 2), (.u8, a 3)], trivial⟩).mono ?_
  rintro e1 w' ⟨N', φ', cv', v, h', _, rfl, hq, _, hv', _, hb⟩
  have hq : v = .bool true := hq
  subst hq
  rw [AX.VR_bool] at hv'; subst hv'
  exact ⟨rfl, hb⟩
set_option maxRecDepth 100000 in
theorem lifted (os : Os) (started : os.Started) (H : Type) (enc : TypeId × Value → H) :
    ReturnsInHanded {} Try.checked os 8 .any (Rows.indexFoldsSpec.pre6 enc Try.prog Try.f8 Rows.indexFoldsRow.domain false) (Rows.indexFoldsSpec.post enc Try.prog Try.f8 false true false false) := by
  refine returnsInHanded_of_change (C := Try.checked) own started (by kernel_rfl) Try.func8
    (ChangeSpec.witness6 (enc := enc) (C := Try.checked) false ⟨#[], #[.slice none 0 0, .agg #[.int .u8 0, .int .u8 0, .int .u8 0, .int .u8 0]], []⟩ 8 (by kernel_rfl) (by kernel_rfl) (by kernel_rfl) (by kernel_rfl)) ?_
  intro M base args ds gs before hval0 hW hcnd _
  have hW' := hW
  have hlt := hW.lt
  obtain ⟨p, q, hA0, hV, rfl, hfz, hnd⟩ := hW
  have hA : DataW.TrodAll enc Try.prog M 0 (fun _ => true) true Try.f8.params.toList args.toList ds p := hA0
  rw [Try.params8] at hA hval0
  have hA1 := hA
  obtain ⟨v0, vs0, d0, ds0, p0, q0, hargs, rfl, rfl, g0, r0⟩ := trodAll_cons hA
  obtain ⟨v1, vs1, d1, ds1, p1, q1, rfl, rfl, rfl, g1, r1⟩ := trodAll_cons r0
  obtain ⟨rfl, rfl, rfl⟩ := trodAll_nil r1
  obtain rfl : args = #[v0, v1] := by cases args; simp_all
  obtain ⟨rfl, rfl⟩ := trodVars_none hV
  obtain ⟨vl, l, hv, sl, hl, _⟩ := AX.nats_arg (k := .u8) rfl X.u22 X.u5 (by kernel_rfl) (hval0 0 22 v0 rfl rfl) g0
  obtain ⟨a, ha, rfl⟩ := X.arr_arg (hval0 1 59 v1 rfl rfl) g1
  simp only [List.append_nil] at hW' hlt
  refine (walk M vl l v0 a hv sl hl ha).mono fun e1 M' ⟨he, hb⟩ => ?_
  subst he
  exact ⟨_, rfl, _, [], _, [], _, [], hW', trodAll_cons_mk (shut_bool Try.underlying4 _) trodAll_mk0, AX.trodAll_below laidOut hb readable hA1 (fun p hp => hlt p (by simpa using hp)) _ (fun p hp => decide_eq_true (hlt p (by simpa using hp))), rfl, hb.frame _, fun h => by cases h⟩
theorem over : Rows.indexFoldsRow.holds Try.pinned (OpenSpec.ofChange Rows.indexFoldsSpec) :=
  OpenClaim.holds_of_wide 8 Try.f8 rfl rfl rfl rfl rfl rfl rfl ⟨rfl, rfl, rfl, rfl, rfl⟩ rfl rfl rfl rfl rfl (by kernel_rfl) Try.func8 (by kernel_rfl)
    (of_decide_eq_true (by kernel_rfl)) (by unfold Func.isWrapper; first | (rw [if_pos (by decide +kernel)]; kernel_rfl) | (rw [if_neg (by decide +kernel)]; exact ⟨rfl, rfl⟩))
    (fun os started H enc _ => lifted os started H enc)
theorem proved : Rows.IndexFoldsSaid := over
#print axioms proved
end Go.Proofs.Ytlkngpckibidlaa.indexFolds


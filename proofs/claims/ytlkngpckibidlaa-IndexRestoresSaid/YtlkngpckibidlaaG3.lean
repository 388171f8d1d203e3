/-
  index: Kept.
  index: Compact.
  index: what a history says.
  index: does an index say what a history does?
  index: histories, and what an index is that says the same: plain law.
  gens: made.
  index: grown.
  index: grown, whole.
  index: law 8: what is kept.
  index: law 10 (IndexRestores): the plain law.
  index: law 10: both are alike, key by key.
  index: works.
-/
import Derived.Test.YtlkngpckibidlaaAxI
import Derived.Test.YtlkngpckibidlaaG2
import Derived.Test.YtlkngpckibidlaaG1
import Derived.Test.YtlkngpckibidlaaAxF
set_option linter.unusedSimpArgs false
set_option linter.unusedVariables false
set_option linter.unusedSectionVars false
open Nat (reduceLT reduceLeDiff reduceEqDiff reduceAdd reduceMul reduceSub)
namespace Go.Proofs.Ytlkngpckibidlaa.X
open Go Go.AX
noncomputable section
set_option maxRecDepth 100000
variable {N : Nat → Prop}
def leR (x y : W.Rv) : Bool := !W.above x y
def modsL (l : List It) : List W.Rv := l.map (·.mod)
def keptL (m : Nat) (R : List Pr) : List W.Rv := (modsL (itsL m R)).mergeSort leR
theorem srt_none {R : List Pr} : atK [] R = 0 := by
  cases R with
  | nil => rfl
  | cons p R =>
    have : listLtB p.key [] = false := by cases p.key <;> rfl
    unfold atK
    simp [List.findIdx_cons, this]
theorem take_all {α : Type} {p : α → Bool} : ∀ (l : List α), (∀ x, p x = true) → l.takeWhile p = l
  | [], _ => rfl
  | x :: l, h => by rw [List.takeWhile_cons_of_pos (h x), take_all l h]
theorem above_ltOf (x y : W.Rv) : Go.Proofs.ltOf revCf x y = W.above y x := by
  unfold Go.Proofs.ltOf revCf orI Lib.compareInt W.above
  by_cases h1 : x.1 < y.1
  · have : (x.1 : Int) < y.1 := by omega
    simp [h1, this]
  · have h1' : ¬ (x.1 : Int) < y.1 := by omega
    by_cases h2 : y.1 < x.1
    · have h2' : (y.1 : Int) < x.1 := by omega
      have : ¬ y.1 = x.1 := by omega
      simp [h1, h1', h2', this]
    · have h2' : ¬ (y.1 : Int) < x.1 := by omega
      have e : y.1 = x.1 := by omega
      by_cases h3 : x.2 < y.2
      · have : (x.2 : Int) < y.2 := by omega
        simp [h1', h2', e, h3, this]
      · have h3' : ¬ (x.2 : Int) < y.2 := by omega
        by_cases h4 : (y.2 : Int) < x.2 <;> simp [h1', h2', e, h3, h3', h4]
theorem above_tri (x y : W.Rv) : W.above x y = true ∨ x = y ∨ W.above y x = true := by
  obtain ⟨a, b⟩ := x
  obtain ⟨c, d⟩ := y
  simp only [W.above, Bool.or_eq_true, decide_eq_true_eq, Bool.and_eq_true, Prod.mk.injEq]
  omega
theorem swoR : Go.Sort.SWO (Go.Proofs.ltOf revCf) where
  irrefl x := by rw [above_ltOf]; exact W.above_irrefl x
  trans x y z h1 h2 := by rw [above_ltOf] at *; exact W.above_trans h2 h1
  ntrans x y z h1 h2 := by
    rw [above_ltOf] at *
    rcases above_tri z x with h | h | h
    · rcases above_tri y x with q | q | q
      · rw [q] at h1; cases h1
      · subst q; rw [h] at h2; cases h2
      · have := W.above_trans h q
        rw [this] at h2; cases h2
    · subst h; exact W.above_irrefl _
    · cases q : W.above z x with
      | false => rfl
      | true => have := W.above_trans q h; rw [W.above_irrefl] at this; cases this
theorem encR : EncR (α := W.Rv) W.rvC (fun r => [.int .u64 r.1, .int .u64 r.2]) 2 where
  k0 := by omega
  ln _ := rfl
  one x v hv := by unfold W.rvC at hv; simp at hv; rcases hv with rfl | rfl <;> rfl
  rel φ x j a cv h := by
    unfold W.rvC at h
    match j with
    | 0 => simp at h; subst h; simp [eq_comm]
    | 1 => simp at h; subst h; simp [eq_comm]
    | j + 2 => simp at h
  lv _ := rfl
  ov x v hv := by simp at hv; rcases hv with rfl | rfl <;> rfl
theorem sortRevC (h : H) (w : AV) (base n : Nat) (l : List W.Rv) (hg : Grows 2 base h w n (W.rvsC l)) (hn : l.length = n) (hz : n ≤ 4194304) {Q : AV → H → Prop}
    (hq : ∀ h', (∀ b, blkOf w ≠ some b → h'.t.get b = h.t.get b) → h'.nx = h.nx → Grows 2 base h' w n (W.rvsC (l.mergeSort leR)) → Q (.tuple []) h') : CallC P (.enter 62 [w, .func 63 [] []] h) Q := by
  have hle : (fun x y => !(Go.Proofs.ltOf revCf) y x) = leR := by funext x y; rw [above_ltOf]; rfl
  obtain ⟨cs, hcs⟩ : ∃ cs, cs = W.rvsC l := ⟨_, rfl⟩
  rw [← hcs] at hg
  cases hg with
  | none =>
    refine sortF_none Try.sortRev 62 rfl (hq h (fun _ _ => rfl) rfl ?_)
    have : l = [] := List.length_eq_zero_iff.1 hn
    subst this
    rw [List.mergeSort_nil]
    exact .none
  | cell b _ _ t ty h1 h2 h3 h4 h5 =>
    subst hcs
    have hc : CellsAt h b 0 (l.flatMap W.rvC) := fun i hi => by
      unfold cellAt; rw [h4, Nat.zero_add]; exact h5 i
    have hw : wrAt h b = true := by unfold wrAt; rw [h4]
    subst hn
    refine sortF_ok Try.sortRev encR Try.isAgg35 Try.sizeOf35 swoR (fun x y h1 h2 => ?_) (enters_of Try.func63 (by kernel_rfl) rfl) (fun x y W => Try.cmp63 x y W) (by omega) hc hw 62 rfl ?_
    · rw [above_ltOf] at h1 h2
      rcases above_tri x y with h | h | h
      · rw [h] at h2; cases h2
      · exact h
      · rw [h] at h1; cases h1
    · rw [hle]
      have hl : (W.rvsC (l.mergeSort leR)).length = l.length * 2 := by rw [W.rvs_len, List.length_mergeSort]
      refine hq _ (fun b' hb => get_sts _ _ _ _ (fun e => hb (by rw [e]; rfl))) (nx_sts _ _ _ _) ?_
      refine .cell b _ _ (AX.setL t 0 (W.rvsC (l.mergeSort leR))) ty h1 (by rw [nx_sts]; exact h2) hl ?_ (fun j => ?_)
      · unfold H.sts; rw [h4]; simp only [T.get_set, if_pos]; rfl
      · rw [setL_get, hl]
        by_cases q : j < l.length * 2
        · rw [if_pos (by omega)]; rfl
        · rw [if_neg (by omega), h5, List.getElem?_eq_none (by omega), List.getElem?_eq_none (by omega)]
structure KpI (h0 : H) (l : List It) (n : Nat) (ds : List Nat) (tm : T AV) (h : H) (i : Nat) (v w : AV) : Prop where
  ds : ds = []
  nn : n = l.length - i
  ii : i ≤ l.length
  t5 : tm.get 5 = some w
  t10 : tm.get 10 = some v
  t11 : tm.get 11 = some (.int .i64 (.ofNat l.length))
  t12 : tm.get 12 = some (.int .i64 (.ofNat i))
  oo : Only h0 h []
  gr : Grows 2 h0.nx h w i (W.rvsC (modsL (l.take i)))
theorem itC_len (x : It) : (itC x).length = 5 := rfl
theorem itC_at {h : H} {b o n : Nat} {cap : Cap} {l : List It} (hs : SliceAt h (.slice b o n cap) n (itsC l)) {i : Nat} {x : It} (hx : l[i]? = some x) :
    cellAt h b (o + i * 5) = some (.str x.key) ∧ cellAt h b (o + i * 5 + 1) = some (.int .u64 (.ofNat x.mod.1)) ∧ cellAt h b (o + i * 5 + 2) = some (.int .u64 (.ofNat x.mod.2)) ∧ cellAt h b (o + i * 5 + 3) = some (.int .u64 (.ofNat x.made)) ∧ cellAt h b (o + i * 5 + 4) = some (.int .u64 (.ofNat x.nth)) :=
  ⟨W.sl_cell itC_len hs hx (j := 0) (by omega), W.sl_cell itC_len hs hx (j := 1) (by omega), W.sl_cell itC_len hs hx (j := 2) (by omega), W.sl_cell itC_len hs hx (j := 3) (by omega), W.sl_cell itC_len hs hx (j := 4) (by omega)⟩
theorem keptC (h0 : H) (b m : Nat) (R : List Pr) (s : AV) (hx : IxR N h0 b R s) (hz : ∀ p, p ∈ R → W.Sz 1000 p.L) :
    PushC P (.enter 38 [.ptr b 0, W.n64 m] h0) fun v h' => Only h0 h' [] ∧ Grows 2 h0.nx h' v (keptL m R).length (W.rvsC (keptL m R)) := by
  have b0 : bytesOf { data := #[] } = [] := rfl
  have b1 : bytesOf { data := #[0] } = [0] := rfl
  unfold W.n64
  refine pushC_of_codeW (fn := Try.f38) (c := bodyC Try.f38) Try.func38 rfl ?_
  show codeW P 38 25 none _ _ _ _ _
  refine codeW_root ?_
  repeat' (first | ((with_reducible refine st1 ?_); (conv => whnf); (with_reducible refine ⟨?_⟩)) | ((with_reducible refine retW_intro rfl ?_); (conv => arg 2; whnf)) | ((with_reducible first | refine iB ?_ ?_ | refine gWt ?_ ?_ | refine gWf ?_ ?_) <;> intro hb <;> (try simp only [hb])) | (simp only [B, F, reduceLT, reduceLeDiff, reduceEqDiff, reduceAdd, reduceMul, reduceSub, ↓reduceIte, eq_self, b0, b1]))
  refine ((rangeC h0 b [] [0] m R s hx hz (by simp)).call P).mono P ?_
  rintro v h1 ⟨o1, g1⟩
  have hl : rangeI [] [0] m R = itsL m R := by
    unfold rangeI endL lastB fromL
    rw [srt_none, List.drop_zero]
    exact congrArg (itsL m) (take_all R fun p => by simp [passB])
  rw [hl] at g1
  obtain ⟨l, hle⟩ : ∃ l, l = itsL m R := ⟨_, rfl⟩
  rw [← hle] at g1
  have hlz : l.length ≤ 100000 := by rw [hle]; exact Nat.le_trans (its_len m R) hx.ix.zz
  have hlen := g1.slice.len (P := P) u75
  have go1 := g1.one
  repeat' (first | ((with_reducible refine st1 ?_); (conv => whnf); (with_reducible refine ⟨?_⟩)) | ((with_reducible refine retW_intro rfl ?_); (conv => arg 2; whnf)) | ((with_reducible first | refine iB ?_ ?_ | refine gWt ?_ ?_ | refine gWf ?_ ?_) <;> intro hb <;> (try simp only [hb])) | (simp only [B, F, reduceLT, reduceLeDiff, reduceEqDiff, reduceAdd, reduceMul, reduceSub, ↓reduceIte, eq_self, hlen, go1]))
  refine st_loop (fun n ds tm h => ∃ i w, KpI h1 l n ds tm h i v w) l.length rfl ⟨0, .nilslice, rfl, rfl, Nat.zero_le _, by simp only [B, F, reduceLT, reduceLeDiff, reduceEqDiff, reduceAdd, reduceMul, reduceSub, ↓reduceIte, eq_self], by simp only [B, F, reduceLT, reduceLeDiff, reduceEqDiff, reduceAdd, reduceMul, reduceSub, ↓reduceIte, eq_self], by simp only [B, F, reduceLT, reduceLeDiff, reduceEqDiff, reduceAdd, reduceMul, reduceSub, ↓reduceIte, eq_self], by simp only [B, F, reduceLT, reduceLeDiff, reduceEqDiff, reduceAdd, reduceMul, reduceSub, ↓reduceIte, eq_self], Only.refl _ _, Grows.none⟩ (fun n ds tm h hI => ?_)
  obtain ⟨i, w, rfl, rfl, ii, t5, t10, t11, t12, oo, gr⟩ := hI
  have go2 := gr.one
  by_cases hi : i < l.length
  · have d1 : decide (i < l.length) = true := decide_eq_true hi
    have lt1 : (i < l.length) = True := by simp [hi]
    have w1 : wrapF .i64 (Int.ofNat i + Int.ofNat 1) = Int.ofNat (i + 1) := i64_add (by omega)
    obtain ⟨x, hx⟩ : ∃ x, l[i]? = some x := ⟨_, List.getElem?_eq_getElem hi⟩
    obtain ⟨bl, o, cap, rfl, hb, -⟩ := g1.slice.place (by omega)
    obtain ⟨p0, p1, p2, p3, p4⟩ := itC_at g1.slice hx
    replace p0 := W.kcell p0 oo (by omega) (by simp)
    replace p1 := W.kcell p1 oo (by omega) (by simp)
    replace p2 := W.kcell p2 oo (by omega) (by simp)
    replace p3 := W.kcell p3 oo (by omega) (by simp)
    replace p4 := W.kcell p4 oo (by omega) (by simp)
    rw [Nat.add_assoc] at p1 p2 p3 p4
    obtain ⟨h2, h2e⟩ : ∃ h2, h2 = ((h.newCells 81 [.str [], .int .u64 (.ofNat 0), .int .u64 (.ofNat 0), .int .u64 (.ofNat 0), .int .u64 (.ofNat 0)]).sts h.nx 0 [.str x.key, .int .u64 (.ofNat x.mod.1), .int .u64 (.ofNat x.mod.2), .int .u64 (.ofNat x.made), .int .u64 (.ofNat x.nth)]).newCells 35 [.int .u64 (.ofNat x.mod.1), .int .u64 (.ofNat x.mod.2)] := ⟨_, rfl⟩
    have o2 : Only h h2 [] := by rw [h2e]; exact (((Only.refl _ _).new _ _).sts (.inr (Nat.le_refl _))).new _ _
    have x2 : h2.nx = h.nx + 2 := by rw [h2e, nx_new, nx_sts, nx_new]
    have n0 : cellAt h2 (h.nx + 1) 0 = some (.int .u64 (.ofNat x.mod.1)) := by rw [h2e]; simp only [B, F, reduceLT, reduceLeDiff, reduceEqDiff, reduceAdd, reduceMul, reduceSub, ↓reduceIte, eq_self]
    have n1 : cellAt h2 (h.nx + 1) 1 = some (.int .u64 (.ofNat x.mod.2)) := by rw [h2e]; simp only [B, F, reduceLT, reduceLeDiff, reduceEqDiff, reduceAdd, reduceMul, reduceSub, ↓reduceIte, eq_self]
    have gr1 : Grows 2 h1.nx h2 w _ _ := gr.of_get o2.1 (fun b hb => o2.2 b (gr.base hb).2 (by simp))
    repeat' (first | ((with_reducible refine st1 ?_); (conv => whnf); (with_reducible refine ⟨?_⟩)) | ((with_reducible refine retW_intro rfl ?_); (conv => arg 2; whnf)) | ((with_reducible first | refine iB ?_ ?_ | refine gWt ?_ ?_ | refine gWf ?_ ?_) <;> intro hb <;> (try simp only [hb])) | (simp only [B, F, reduceLT, reduceLeDiff, reduceEqDiff, reduceAdd, reduceMul, reduceSub, ↓reduceIte, eq_self, t5, t10, t11, t12, d1, lt1, p0, p1, p2, p3, p4, w1, go2, ← h2e, n0, n1]))
    have hlt : (l.take i).length = i := by rw [List.length_take]; omega
    have x0 := oo.1
    refine exW_grows (m := 1) (new := W.rvC x.mod) gr1 (by omega) (by omega) (by omega) rfl (by omega) (fun v' h3 gr3 x3 old3 blk3 => ?_)
    have e : W.rvsC (modsL (l.take i)) ++ W.rvC x.mod = W.rvsC (modsL (l.take (i + 1))) := by
      rw [List.take_add_one, hx]; simp [W.rvsC, modsL]
    rw [e] at gr3
    have o3 : Only h1 h3 [] := ⟨by omega, fun b hb _ => by
      rw [old3 b (by omega) (fun q => by have := (gr1.base q).1; omega)]; exact (oo.t o2).2 b hb (by simp)⟩
    have go3 := gr3.one
    repeat' (first | ((with_reducible refine st1 ?_); (conv => whnf); (with_reducible refine ⟨?_⟩)) | ((with_reducible refine retW_intro rfl ?_); (conv => arg 2; whnf)) | ((with_reducible first | refine iB ?_ ?_ | refine gWt ?_ ?_ | refine gWf ?_ ?_) <;> intro hb <;> (try simp only [hb])) | (simp only [B, F, reduceLT, reduceLeDiff, reduceEqDiff, reduceAdd, reduceMul, reduceSub, ↓reduceIte, eq_self, t5, t10, t11, t12, w1, go3]))
    exact ⟨l.length - (i + 1), by omega, i + 1, v', rfl, rfl, hi, by simp only [B, F, reduceLT, reduceLeDiff, reduceEqDiff, reduceAdd, reduceMul, reduceSub, ↓reduceIte, eq_self], by simp only [B, F, reduceLT, reduceLeDiff, reduceEqDiff, reduceAdd, reduceMul, reduceSub, ↓reduceIte, eq_self, t10], by simp only [B, F, reduceLT, reduceLeDiff, reduceEqDiff, reduceAdd, reduceMul, reduceSub, ↓reduceIte, eq_self, t11], by simp only [B, F, reduceLT, reduceLeDiff, reduceEqDiff, reduceAdd, reduceMul, reduceSub, ↓reduceIte, eq_self], o3, gr3⟩
  · have d1 : decide (i < l.length) = false := decide_eq_false hi
    obtain rfl : i = l.length := by omega
    rw [List.take_length] at gr
    have x1 := o1.1
    repeat' (first | ((with_reducible refine st1 ?_); (conv => whnf); (with_reducible refine ⟨?_⟩)) | ((with_reducible refine retW_intro rfl ?_); (conv => arg 2; whnf)) | ((with_reducible first | refine iB ?_ ?_ | refine gWt ?_ ?_ | refine gWf ?_ ?_) <;> intro hb <;> (try simp only [hb])) | (simp only [B, F, reduceLT, reduceLeDiff, reduceEqDiff, reduceAdd, reduceMul, reduceSub, ↓reduceIte, eq_self, t5, t10, t11, t12, d1, go2]))
    have hk : keptL m R = (modsL l).mergeSort leR := by unfold keptL; rw [hle]
    have hlen' : (modsL l).length = l.length := by unfold modsL; simp
    refine sortRevC h w h1.nx l.length (modsL l) gr hlen' (by omega) (fun h2 e2 n2 g2 => ?_)
    have go3 := g2.one
    repeat' (first | ((with_reducible refine st1 ?_); (conv => whnf); (with_reducible refine ⟨?_⟩)) | ((with_reducible refine retW_intro rfl ?_); (conv => arg 2; whnf)) | ((with_reducible first | refine iB ?_ ?_ | refine gWt ?_ ?_ | refine gWf ?_ ?_) <;> intro hb <;> (try simp only [hb])) | (simp only [B, F, reduceLT, reduceLeDiff, reduceEqDiff, reduceAdd, reduceMul, reduceSub, ↓reduceIte, eq_self, t5, go3]))
    have x2 := oo.1
    refine ⟨⟨by omega, fun b hb _ => by rw [e2 b (fun q => by have := (gr.base q).1; omega)]; exact (o1.t oo).2 b hb (by simp)⟩, ?_⟩
    rw [hk, List.length_mergeSort, hlen']
    exact g2.weak x1
end
end Go.Proofs.Ytlkngpckibidlaa.X

namespace Go.Proofs.Ytlkngpckibidlaa.X
open Go Go.AX
noncomputable section
set_option maxRecDepth 100000
variable {N : Nat → Prop}
def kl (p : Pr) : List Nat × List W.Gn := (p.key, p.L)
def compR (m : Nat) (R : List Pr) : List (List Nat × List W.Gn) := R.filterMap fun p => if (W.compL p.L m).isEmpty then none else some (p.key, W.compL p.L m)
theorem compR_take {m : Nat} {R : List Pr} {k : Nat} {p : Pr} (hp : R[k]? = some p) : compR m (R.take (k + 1)) = if (W.compL p.L m).isEmpty then compR m (R.take k) else compR m (R.take k) ++ [(p.key, W.compL p.L m)] := by
  unfold compR
  rw [List.take_add_one, hp, List.filterMap_append]
  cases q : (W.compL p.L m).isEmpty with
  | true => simp only [Option.toList_some, List.filterMap_cons, q, if_pos, List.filterMap_nil, List.append_nil]
  | false => simp only [Option.toList_some, List.filterMap_cons, q, Bool.false_eq_true, if_false, List.filterMap_nil]
theorem compR_len (m : Nat) (R : List Pr) : (compR m R).length ≤ R.length := List.length_filterMap_le _ _
structure CJ (hk : H) (b3 : Nat) (R : List Pr) (m : Nat) (r : ALoop) (k : Nat) (mv : Option Nat) (h : H) : Prop where
  nx : hk.nx + 7 ≤ h.nx
  old : ∀ b, b < hk.nx → h.t.get b = hk.t.get b
  hl : h.t.get (hk.nx + 6) = some (.loop r)
  hd : h.t.get (hk.nx + 5) = some (.deferred (some []))
  w6 : wrAt h hk.nx = true
  sv : ∃ sv X, cellAt h hk.nx 0 = some sv ∧ Grows 2 (hk.nx + 7) h sv X.length (prsC X) ∧ blkOf sv = mv ∧ X.map kl = compR m (R.take k) ∧ (X = [] → sv = .nilslice) ∧ ∀ p, p ∈ X → W.GensP (fun c => mv ≠ some c ∧ hk.nx + 7 ≤ c) h (.agg [p.v]) p.L
  tm : r.tm.get 3 = some (.ptr b3 0) ∧ r.tm.get 6 = some (.ptr hk.nx 0)
theorem CJ.keep {hk : H} {b3 : Nat} {R : List Pr} {m : Nat} {r : ALoop} {k : Nat} {mv : Option Nat} {h h' : H} (hj : CJ hk b3 R m r k mv h) (ho : Only h h' []) : CJ hk b3 R m r k mv h' := by
  obtain ⟨nx, old, hl, hd, w6, ⟨sv, X, sc, sg, sb, sx, sn, sp⟩, tm⟩ := hj
  have e := fun b (hb : b < h.nx) => ho.2 b hb (by simp)
  have ec := fun b (hb : b < h.nx) => cellAt_of_get (e b hb)
  have ew := fun b (hb : b < h.nx) => wrAt_of_get (e b hb)
  exact ⟨Nat.le_trans nx ho.1, fun b hb => by rw [e b (by omega), old b hb], by rw [e _ (by omega)]; exact hl, by rw [e _ (by omega)]; exact hd, by rw [ew _ (by omega)]; exact w6,
    ⟨sv, X, by rw [ec _ (by omega)]; exact sc, sg.of_get ho.1 (fun b hb => e b (sg.base hb).2), sb, sx, sn, fun p hp => (sp p hp).keep0 ho⟩, tm⟩
def bodyK : List Nat := [0, 1, 0, 1, 1, 1, 1]
noncomputable abbrev compRr (hk : H) (tm : T AV) : ALoop := loopR 28 43 tm [20, 21] (codeI (bodyC Try.f28) (0 :: bodyK)) (codeI (bodyC Try.f28) (1 :: bodyK)) (hk.nx + 5) .ready
theorem compRound (hk : H) (b3 : Nat) (R : List Pr) (m : Nat) (tm : T AV) (hlen : R.length ≤ 100000) (k : Nat) (mv : Option Nat) (h : H) (p : Pr) (hj : CJ hk b3 R m (compRr hk tm) k mv h) (hb3 : b3 < hk.nx) (c3 : cellAt hk b3 0 = some (.int .u64 (.ofNat m)))
    (hp : R[k]? = some p) (hg : W.GensAt hk (.agg [p.v]) p.L) (hz : W.Sz 1000 p.L) :
    PushC P (.round (hk.nx + 6) [.str p.key, .agg [p.v]] h) fun v h' => v = .bool true ∧ ∃ mv', CJ hk b3 R m (compRr hk tm) (k + 1) mv' h' ∧ W.OnlyM h h' [hk.nx, hk.nx + 6] mv ∧ (mv' = mv ∨ ∃ b, mv' = some b ∧ h.nx ≤ b) := by
  obtain ⟨nx, old, hl, hd, w6, ⟨sv, X, sc, sg, sb, sx, sn, sp⟩, q3, q6⟩ := hj
  obtain ⟨_, e', hgo, hgc⟩ := hg.val
  cases e'
  refine round_walk (tm := (tm.set 20 (some (.str p.key))).set 21 (some (.agg [p.v]))) hl rfl ?_
  show codeW P 28 43 (some (hk.nx + 6)) (codeI (bodyC Try.f28) (0 :: bodyK)) _ _ _ _
  unfold bodyK
  have q3 : tm.get 3 = some (.ptr b3 0) := q3
  have q6 : tm.get 6 = some (.ptr hk.nx 0) := q6
  repeat' (first | ((with_reducible refine st1 ?_); (conv => whnf); (with_reducible refine ⟨?_⟩)) | ((with_reducible refine retW_intro rfl ?_); (conv => arg 2; whnf)) | ((with_reducible first | refine iB ?_ ?_ | refine gWt ?_ ?_ | refine gWf ?_ ?_) <;> intro hb <;> (try simp only [hb])) | (simp only [B, F, reduceLT, reduceLeDiff, reduceEqDiff, reduceAdd, reduceMul, reduceSub, ↓reduceIte, eq_self, hgo, hgc]))
  refine asg_norm (by rw [get_sts _ _ _ _ (by omega), get_new _ _ _ (by omega)]; exact hl) rfl ?_
  show codeW P 28 43 (some (hk.nx + 6)) (codeI (bodyC Try.f28) [1, 0, 1, 0, 1, 1, 1, 1]) _ _ _ _
  obtain ⟨h1, e1⟩ : ∃ h1, h1 = ((h.newCells 26 [.nilslice]).sts h.nx 0 [p.v]).obj (hk.nx + 6) (.loop { compRr hk tm with state := .busy }) := ⟨_, rfl⟩
  have hl1 : h1.t.get (hk.nx + 6) = some (.loop { compRr hk tm with state := .busy }) := by rw [e1]; exact get_obj_self _ _
  have hx1 : h1.nx = h.nx + 1 := by rw [e1, nx_obj, nx_sts, nx_new]
  have hget1 : ∀ b, b < h.nx → b ≠ hk.nx + 6 → h1.t.get b = h.t.get b := fun b hb hne => by rw [e1, get_obj_ne hne, get_sts _ _ _ _ (by omega), get_new _ _ _ (by omega)]
  have d0 : cellAt h1 h.nx 0 = some p.v := by rw [e1, cellAt_obj (by omega), cellAt_sts (by rw [wrAt_new, if_pos rfl]), if_pos ⟨rfl, Nat.le_refl _, by simp⟩]; rfl
  have hc0 : cellAt h1 b3 0 = some (.int .u64 (.ofNat m)) := by rw [cellAt_of_get (hget1 _ (by omega) (by omega)), cellAt_of_get (old b3 hb3)]; exact c3
  have hgh : W.GensAt h1 (.agg [p.v]) p.L := hg.keep ⟨by omega, fun b hb _ => by rw [hget1 b (by omega) (by omega)]; exact old b hb⟩
  rw [← e1]
  repeat' (first | ((with_reducible refine st1 ?_); (conv => whnf); (with_reducible refine ⟨?_⟩)) | ((with_reducible refine retW_intro rfl ?_); (conv => arg 2; whnf)) | ((with_reducible first | refine iB ?_ ?_ | refine gWt ?_ ?_ | refine gWf ?_ ?_) <;> intro hb <;> (try simp only [hb])) | (simp only [B, F, reduceLT, reduceLeDiff, reduceEqDiff, reduceAdd, reduceMul, reduceSub, ↓reduceIte, eq_self, q3, q6, hc0, d0, hgo, hgc]))
  refine ((W.compC (fun c => h1.nx ≤ c) h1 (.agg [p.v]) p.L m (fun _ h => h) hgh hz).call P).mono P ?_
  rintro v h2 ⟨ho2, gv, kv, rfl, hgp, -⟩
  obtain ⟨g, rfl, hgo2, hgc2⟩ := hgp.val
  have hx2 := ho2.1
  have hget2 : ∀ b, b < h.nx → b ≠ hk.nx + 6 → h2.t.get b = h.t.get b := fun b hb hne => by rw [ho2.2 b (by omega) (by simp), hget1 b hb hne]
  have hl2 : h2.t.get (hk.nx + 6) = some (.loop { compRr hk tm with state := .busy }) := by rw [ho2.2 _ (by omega) (by simp)]; exact hl1
  obtain ⟨h3, e3⟩ : ∃ h3, h3 = (h2.newCells 26 [.nilslice]).sts h2.nx 0 [g] := ⟨_, rfl⟩
  have o3 : Only h2 h3 [] := by rw [e3]; exact ((Only.refl _ _).new _ _).sts (.inr (Nat.le_refl _))
  have x3 : h3.nx = h2.nx + 1 := by rw [e3, nx_sts, nx_new]
  have d3 : cellAt h3 h2.nx 0 = some g := by rw [e3, cellAt_sts (by rw [wrAt_new, if_pos rfl]), if_pos ⟨rfl, Nat.le_refl _, by simp⟩]; rfl
  repeat' (first | ((with_reducible refine st1 ?_); (conv => whnf); (with_reducible refine ⟨?_⟩)) | ((with_reducible refine retW_intro rfl ?_); (conv => arg 2; whnf)) | ((with_reducible first | refine iB ?_ ?_ | refine gWt ?_ ?_ | refine gWf ?_ ?_) <;> intro hb <;> (try simp only [hb])) | (simp only [B, F, reduceLT, reduceLeDiff, reduceEqDiff, reduceAdd, reduceMul, reduceSub, ↓reduceIte, eq_self, hgo2, hgc2, q3, q6, ← e3, d3]))
  refine ((W.emptyC h3 (.agg [g]) (W.compL p.L m) (hgp.keep0 o3).at (W.sz_comp hz m)).call P).mono P ?_
  rintro v h4 ⟨rfl, o4⟩
  have x4 := o4.1
  have hget4 : ∀ b, b < h.nx → b ≠ hk.nx + 6 → h4.t.get b = h.t.get b := fun b hb hne => by rw [o4.2 b (by omega) (by simp), o3.2 b (by omega) (by simp), hget2 b hb hne]
  have hl4 : h4.t.get (hk.nx + 6) = some (.loop { compRr hk tm with state := .busy }) := by rw [o4.2 _ (by omega) (by simp), o3.2 _ (by omega) (by simp)]; exact hl2
  have d4 := W.kcell d3 o4 (by omega) (by simp)
  have hgp4 := (hgp.keep0 o3).keep0 o4
  have hc6 : cellAt h4 hk.nx 0 = some sv := by rw [cellAt_of_get (hget4 _ (by omega) (by omega))]; exact sc
  have lt := compR_take (m := m) hp
  cases hem : (W.compL p.L m).isEmpty with
  | true =>
    rw [hem, if_pos rfl] at lt
    repeat' (first | ((with_reducible refine st1 ?_); (conv => whnf); (with_reducible refine ⟨?_⟩)) | ((with_reducible refine retW_intro rfl ?_); (conv => arg 2; whnf)) | ((with_reducible first | refine iB ?_ ?_ | refine gWt ?_ ?_ | refine gWf ?_ ?_) <;> intro hb <;> (try simp only [hb])) | (simp only [B, F, reduceLT, reduceLeDiff, reduceEqDiff, reduceAdd, reduceMul, reduceSub, ↓reduceIte, eq_self, Bool.not_true, Bool.not_false]))
    have q : ∀ b, b < h.nx → b ≠ hk.nx + 6 → (h4.obj (hk.nx + 6) (.loop (compRr hk tm))).t.get b = h.t.get b := fun b hb hne => by rw [get_obj_ne hne, hget4 b hb hne]
    refine roundEnd_norm hl4 rfl rfl ⟨rfl, mv, ?_, ⟨by rw [nx_obj]; omega, fun b hb hs _ => q b hb (fun e => hs (by simp [e]))⟩, .inl rfl⟩
    refine ⟨by rw [nx_obj]; omega, fun b hb => by rw [q b (by omega) (by omega)]; exact old b hb, get_obj_self _ _, by rw [q _ (by omega) (by omega)]; exact hd,
      by rw [wrAt_of_get (q _ (by omega) (by omega))]; exact w6,
      ⟨sv, X, by rw [cellAt_of_get (q _ (by omega) (by omega))]; exact sc, ?_, sb, by rw [lt]; exact sx, sn, fun p' hp' => ?_⟩, q3, q6⟩
    · exact sg.of_get (by rw [nx_obj]; omega) (fun b hb => q b (sg.base hb).2 (by have := (sg.base hb).1; omega))
    · have oX : Only h (h4.obj (hk.nx + 6) (.loop (compRr hk tm))) [hk.nx + 6] := ⟨by rw [nx_obj]; omega, fun b hb hs => q b hb (fun e => hs (by simp [e]))⟩
      exact (sp p' hp').keep oX (fun c hc e => by simp at hc; omega)
  | false =>
    rw [hem, if_neg (by simp)] at lt
    obtain ⟨h5, e5⟩ : ∃ h5, h5 = h4.newCells 114 [.str p.key, g] := ⟨_, rfl⟩
    have o5 : Only h4 h5 [] := by rw [e5]; exact (Only.refl _ _).new _ _
    have x5 : h5.nx = h4.nx + 1 := by rw [e5, nx_new]
    have n0 : cellAt h5 h4.nx 0 = some (.str p.key) := by rw [e5]; simp only [B, F, reduceLT, reduceLeDiff, reduceEqDiff, reduceAdd, reduceMul, reduceSub, ↓reduceIte, eq_self]
    have n1 : cellAt h5 h4.nx 1 = some g := by rw [e5]; simp only [B, F, reduceLT, reduceLeDiff, reduceEqDiff, reduceAdd, reduceMul, reduceSub, ↓reduceIte, eq_self]
    repeat' (first | ((with_reducible refine st1 ?_); (conv => whnf); (with_reducible refine ⟨?_⟩)) | ((with_reducible refine retW_intro rfl ?_); (conv => arg 2; whnf)) | ((with_reducible first | refine iB ?_ ?_ | refine gWt ?_ ?_ | refine gWf ?_ ?_) <;> intro hb <;> (try simp only [hb])) | (simp only [B, F, reduceLT, reduceLeDiff, reduceEqDiff, reduceAdd, reduceMul, reduceSub, ↓reduceIte, eq_self, Bool.not_true, Bool.not_false, q3, q6, hc6, d4, hgo2, hgc2, ← e5, n0, n1]))
    have hXl : X.length ≤ 100000 := by
      have h1 : X.length = (compR m (R.take k)).length := by rw [← sx, List.length_map]
      have h2 := compR_len m (R.take k)
      rw [List.length_take] at h2; omega
    have hmv : ∀ b, mv = some b → hk.nx + 7 ≤ b ∧ b < h.nx := fun b qq => sg.base (sb.trans qq)
    refine exW_grows (m := 1) (new := [.str p.key, g]) (base := hk.nx + 7) (h := h5) (sg.of_get (by omega) (fun b hb => by have := sg.base hb; rw [o5.2 b (by omega) (by simp), hget4 b (by omega) (by omega)])) (by omega) (by omega) (by omega) rfl (by omega) ?_
    intro v' h6 hg' hnx hold hblk
    have hpr : prsC X ++ [.str p.key, g] = prsC (X ++ [⟨p.key, W.compL p.L m, g⟩]) := by simp [prsC, prC]
    rw [hpr] at hg'
    have q4 : ∀ b, b < h4.nx → mv ≠ some b → h6.t.get b = h4.t.get b := fun b hb hm => by
      rw [hold b (by omega) (by rw [sb]; exact hm), o5.2 b hb (by simp)]
    have q : ∀ b, b < h.nx → b ≠ hk.nx + 6 → mv ≠ some b → h6.t.get b = h.t.get b := fun b hb hne hm => by rw [q4 b (by omega) hm, hget4 b hb hne]
    have hm6 : mv ≠ some (hk.nx + 6) := fun e => by have := (hmv _ e).1; omega
    have hm0 : ∀ b, b < hk.nx + 7 → mv ≠ some b := fun b hb e => by have := (hmv _ e).1; omega
    have hw6 : wrAt h6 hk.nx = true := by rw [wrAt_of_get (q _ (by omega) (by omega) (hm0 _ (by omega)))]; exact w6
    have hl6 : h6.t.get (hk.nx + 6) = some (.loop { compRr hk tm with state := .busy }) := by rw [q4 _ (by omega) hm6]; exact hl4
    have hcv := hg'.cells
    have hov := hg'.one
    have hc66 : cellAt h6 hk.nx 0 = some sv := by rw [cellAt_of_get (q _ (by omega) (by omega) (hm0 _ (by omega)))]; exact sc
    repeat' (first | ((with_reducible refine st1 ?_); (conv => whnf); (with_reducible refine ⟨?_⟩)) | ((with_reducible refine retW_intro rfl ?_); (conv => arg 2; whnf)) | ((with_reducible first | refine iB ?_ ?_ | refine gWt ?_ ?_ | refine gWf ?_ ?_) <;> intro hb <;> (try simp only [hb])) | (simp only [B, F, reduceLT, reduceLeDiff, reduceEqDiff, reduceAdd, reduceMul, reduceSub, ↓reduceIte, eq_self, q6, put_sts, hw6, hc66, hcv, hov]))
    have g7 : ∀ b, b ≠ hk.nx → b ≠ hk.nx + 6 → ((h6.sts hk.nx 0 [v']).obj (hk.nx + 6) (.loop (compRr hk tm))).t.get b = h6.t.get b := fun b n1 n2 => by rw [get_obj_ne n2, get_sts _ _ _ _ n1]
    obtain ⟨h7, e7⟩ : ∃ h7, h7 = (h6.sts hk.nx 0 [v']).obj (hk.nx + 6) (.loop (compRr hk tm)) := ⟨_, rfl⟩
    have x7 : h7.nx = h6.nx := by rw [e7, nx_obj, nx_sts]
    rw [← e7] at g7
    refine roundEnd_norm (by rw [get_sts _ _ _ _ (by omega)]; exact hl6) rfl rfl ?_
    show _ ∧ ∃ mv', CJ hk b3 R m (compRr hk tm) (k + 1) mv' ((h6.sts hk.nx 0 [v']).obj (hk.nx + 6) (.loop (compRr hk tm))) ∧ W.OnlyM h ((h6.sts hk.nx 0 [v']).obj (hk.nx + 6) (.loop (compRr hk tm))) _ mv ∧ _
    rw [← e7]
    refine ⟨rfl, blkOf v', ?_, ⟨by omega, fun b hb hs hm => ?_⟩, .inr ⟨_, hblk, by omega⟩⟩
    · refine ⟨by omega, fun b hb => by rw [g7 b (by omega) (by omega), q b (by omega) (by omega) (hm0 _ (by omega))]; exact old b hb, by rw [e7]; exact get_obj_self _ _,
        by rw [g7 _ (by omega) (by omega), q _ (by omega) (by omega) (hm0 _ (by omega))]; exact hd,
        by rw [e7, wrAt_obj (by omega), wrAt_sts]; exact hw6, ⟨v', X ++ [⟨p.key, W.compL p.L m, g⟩], ?_, ?_, rfl, ?_, fun e => by simp at e, fun p' hp' => ?_⟩, q3, q6⟩
      · rw [e7, cellAt_obj (by omega), cellAt_sts hw6, if_pos ⟨rfl, Nat.le_refl _, by simp⟩]; rfl
      · rw [show (X ++ [(⟨p.key, W.compL p.L m, g⟩ : Pr)]).length = X.length + 1 by simp]
        refine hg'.of_get (by omega) (fun b hb => g7 b ?_ ?_)
        · rw [hblk] at hb; cases hb; omega
        · rw [hblk] at hb; cases hb; omega
      · rw [List.map_append, sx, lt]; rfl
      · have oX : Only h h7 (hk.nx :: (hk.nx + 6) :: mv.toList) := ⟨by omega, fun b hb hs => by
          simp only [List.mem_cons, not_or] at hs
          rw [g7 b hs.1 hs.2.1, q b hb hs.2.1 (fun e => hs.2.2 (by rw [e]; simp))]⟩
        have oY : Only h4 h7 (hk.nx :: (hk.nx + 6) :: mv.toList) := ⟨by omega, fun b hb hs => by
          simp only [List.mem_cons, not_or] at hs
          rw [g7 b hs.1 hs.2.1, q4 b hb (fun e => hs.2.2 (by rw [e]; simp))]⟩
        rcases List.mem_append.1 hp' with hp' | hp'
        · refine (((sp p' hp').mono (q := fun c => (mv ≠ some c ∧ hk.nx + 7 ≤ c) ∧ c < h.nx) fun c hc e => ⟨e, hc⟩).keep oX (fun c hc e => ?_)).mono (fun c _ e => ⟨fun e2 => ?_, e.1.2⟩)
          · simp only [List.mem_cons] at hc
            rcases hc with rfl | rfl | hc
            · omega
            · omega
            · exact e.1.1 (by cases mv <;> simp_all)
          · rw [hblk] at e2; cases e2; omega
        · simp only [List.mem_singleton] at hp'
          subst hp'
          refine ((hgp4.mono (q := fun c => h1.nx ≤ c ∧ c < h4.nx) fun c hc e => ⟨e, hc⟩).keep oY (fun c hc e => ?_)).mono (fun c _ e => ⟨fun e2 => ?_, by omega⟩)
          · simp only [List.mem_cons] at hc
            rcases hc with rfl | rfl | hc
            · omega
            · omega
            · have hc : mv = some c := by cases mv <;> simp_all
              have := (hmv _ hc).2; omega
          · rw [hblk] at e2; cases e2; omega
    · simp only [List.mem_cons, List.mem_nil_iff, or_false, not_or] at hs
      rw [g7 b hs.1 hs.2, q b hb hs.2 hm]
theorem kl_keys {X : List Pr} {l : List (List Nat × List W.Gn)} (h : X.map kl = l) : X.map (·.key) = l.map (·.1) := by
  rw [← h, List.map_map]; rfl
theorem compR_srt {R : List Pr} (m : Nat) (hs : Srt R) {X : List Pr} (hx : X.map kl = compR m R) : Srt X := by
  have h1 := kl_keys hx
  have h2 : ((compR m R).map (·.1)).Pairwise fun a b => listLtB a b = true := by
    rw [List.pairwise_map]
    unfold compR
    rw [List.pairwise_filterMap]
    unfold Srt at hs
    refine hs.imp fun {p q} hlt x hx y hy => ?_
    split at hx
    · cases hx
    · split at hy
      · cases hy
      · cases hx; cases hy; exact hlt
  rw [← h1] at h2
  exact List.pairwise_map.1 h2
theorem from_all (R : List Pr) : fromL [] [] true R = R := by
  unfold fromL
  rw [srt_none, List.drop_zero]
  exact take_all R fun p => rfl
theorem _root_.Go.AX.Grows.row {base : Nat} {h : H} {v : AV} {n : Nat} {cs : List AV} (hg : Grows 2 base h v n cs) (hn : n = 0 → v = .nilslice) : RowV h v n cs := by
  cases hg with
  | none => exact .nil
  | cell b n cs t ty h1 h2 h3 h4 h5 =>
    exact .opn b n (n * 2) ty cs (by rcases Nat.eq_zero_or_pos n with e | e; (cases hn e); exact e) h3 (Nat.le_refl _) ⟨h2, t, h4, fun j _ => h5 j⟩
theorem compLoop (hk h2 : H) (b b3 m : Nat) (R : List Pr) (s : AV) (hx : IxR N hk b R s) (hz : ∀ p, p ∈ R → W.Sz 1000 p.L) (tm : T AV) (o2 : Only hk h2 []) (x2 : h2.nx = hk.nx + 5)
    (hb3 : b3 < hk.nx) (c3 : cellAt hk b3 0 = some (.int .u64 (.ofNat m)))
    (q1 : cellAt h2 (hk.nx + 1) 0 = some (.ptr b 0)) (q2 : cellAt h2 (hk.nx + 2) 0 = some (.str [])) (q3 : cellAt h2 (hk.nx + 4) 0 = some (.bool true)) (q4 : cellAt h2 (hk.nx + 3) 0 = some (.str []))
    (c6 : cellAt h2 hk.nx 0 = some .nilslice) (w6 : wrAt h2 hk.nx = true)
    (q7 : tm.get 3 = some (.ptr b3 0)) (q10 : tm.get 6 = some (.ptr hk.nx 0)) (q29 : tm.get 19 = some (fromV (hk.nx + 1))) (Q : KQ)
    (hQ : ∀ h3 v X, Only hk h3 [] → hk.nx + 7 ≤ h3.nx → h3.t.get (hk.nx + 5) = some (.deferred (some [])) → cellAt h3 hk.nx 0 = some v → Grows 2 (hk.nx + 7) h3 v X.length (prsC X) → X.map kl = compR m R → (X = [] → v = .nilslice) →
      (∀ p, p ∈ X → W.GensP (fun c => blkOf v ≠ some c ∧ hk.nx + 7 ≤ c) h3 (.agg [p.v]) p.L) → Q .norm [hk.nx + 5] tm h3) :
    codeW P 28 43 none (codeI (bodyC Try.f28) bodyK) [] tm h2 Q := by
  unfold bodyK
  refine st_rf rfl (f := .tmp 19) (ps := #[20, 21]) rfl rfl ?_
  refine rf_walk (g := 74) (cap := [.ptr (hk.nx + 1) 0, .ptr (hk.nx + 1 + 1) 0, .ptr (hk.nx + 1 + 3) 0, .ptr (hk.nx + 1 + 2) 0]) (by rw [evalA_tmp, q29]; rfl) (fun args h => callV_func 74 (by kernel_rfl) [] _ args) ?_
  have hbase : ∀ b, b < h2.nx → (loopH h2 28 43 tm [20, 21] (codeI (bodyC Try.f28) (0 :: bodyK)) (codeI (bodyC Try.f28) (1 :: bodyK))).t.get b = h2.t.get b := fun b hb => by rw [loopH_get, if_neg (by omega), if_neg (by omega)]
  have hbc := fun b (hb : b < h2.nx) => cellAt_of_get (hbase b hb)
  have hJ0 : CJ hk b3 R m (compRr hk tm) 0 none (loopH h2 28 43 tm [20, 21] (codeI (bodyC Try.f28) (0 :: bodyK)) (codeI (bodyC Try.f28) (1 :: bodyK))) := by
    exact ⟨by rw [loopH_nx]; omega, fun b hb => by rw [hbase b (by omega)]; exact o2.2 b hb (by simp), by rw [loopH_get, if_pos (by omega), x2], by rw [loopH_get, if_neg (by omega), if_pos (by omega)],
      by rw [wrAt_of_get (hbase _ (by omega))]; exact w6, ⟨.nilslice, [], by rw [hbc _ (by omega)]; exact c6, .none, rfl, rfl, fun _ => rfl, fun p hp => by cases hp⟩, q7, q10⟩
  have oL : Only hk (loopH h2 28 43 tm [20, 21] (codeI (bodyC Try.f28) (0 :: bodyK)) (codeI (bodyC Try.f28) (1 :: bodyK))) [] := ⟨by have := hJ0.nx; omega, fun b hb _ => hJ0.old b hb⟩
  have hxL := hx.keep oL
  have hlt := hx.ix.lt
  have hbs := hx.ix.sl.blk
  rw [x2]
  refine (fromRun _ (hk.nx + 6) b (hk.nx + 1) (hk.nx + 1 + 1) (hk.nx + 1 + 3) (hk.nx + 1 + 2) [] [] true R s [hk.nx, hk.nx + 6] (CJ hk b3 R m (compRr hk tm)) hxL (by rw [hbc _ (by omega)]; exact q1) (by rw [hbc _ (by omega)]; exact q2) (by rw [hbc _ (by omega)]; exact q3) (by rw [hbc _ (by omega)]; exact q4)
    (by rw [loopH_nx]; omega) ?_ (fun _ _ _ _ hj ho => hj.keep ho)
    (fun i mv h p hj _ hp => by
      rw [from_all] at hp
      have hpR := List.mem_of_getElem? hp
      exact compRound hk b3 R m tm hx.ix.zz i mv h p hj hb3 c3 hp (hx.ix.gg p hpR).at (hz p hpR)) hJ0).mono P ?_
  · intro c hc
    rw [loopH_nx, x2]
    simp only [List.mem_cons, List.mem_nil_iff, or_false] at hc
    refine ⟨by omega, by omega, by omega, fun e => ?_⟩
    have := hbs c e
    omega
  rintro _ h3 ⟨mv, hj, -, -⟩
  rw [from_all] at hj
  obtain ⟨nx, old, hl, hd, w6', ⟨sv, X, sc, sg, sb, sx, sn, sp⟩, -⟩ := hj
  rw [List.take_length] at sx
  refine ⟨hl, ?_⟩
  obtain ⟨h4, e4⟩ : ∃ h4, h4 = h3.obj (hk.nx + 6) (.loop (loopR 28 43 tm [20, 21] (codeI (bodyC Try.f28) (0 :: bodyK)) (codeI (bodyC Try.f28) (1 :: bodyK)) (hk.nx + 5) .exhausted)) := ⟨_, rfl⟩
  show Q .norm [hk.nx + 5] tm (h3.obj (hk.nx + 6) (.loop (loopR 28 43 tm [20, 21] (codeI (bodyC Try.f28) (0 :: bodyK)) (codeI (bodyC Try.f28) (1 :: bodyK)) (hk.nx + 5) .exhausted)))
  rw [← e4]
  have g4 : ∀ b, b ≠ hk.nx + 6 → h4.t.get b = h3.t.get b := fun b hb => by rw [e4, get_obj_ne hb]
  have x4 : h4.nx = h3.nx := by rw [e4, nx_obj]
  have oX : Only h3 h4 [hk.nx + 6] := ⟨by omega, fun b _ hs => g4 b (fun e => hs (by simp [e]))⟩
  refine hQ h4 sv X ⟨by omega, fun b hb _ => by rw [g4 _ (by omega)]; exact old b hb⟩ (by omega) (by rw [g4 _ (by omega)]; exact hd) (by rw [cellAt_of_get (g4 _ (by omega))]; exact sc)
    (sg.of_get (by omega) (fun b hb => by have := sg.base hb; rw [g4 _ (by omega)])) sx sn (fun p hp => ((sp p hp).keep oX (fun c hc e => by simp at hc; omega)).mono fun c _ e => by rw [sb]; exact e)
theorem compactC0 (h0 : H) (b m : Nat) (R : List Pr) (s : AV) (hx : IxR N h0 b R s) (hz : ∀ p, p ∈ R → W.Sz 1000 p.L) :
    PushC P (.enter 28 [.ptr b 0, W.n64 m] h0) fun v h' => Only h0 h' [b] ∧ Grows 2 h0.nx h' v (keptL m R).length (W.rvsC (keptL m R)) ∧ ∃ R' s', R'.map kl = compR m R ∧ IxO N h' b R' s' ∧ (∀ c, blkOf v = some c → blkOf s' ≠ some c) ∧ ∀ c, blkOf s' = some c → h0.nx ≤ c := by
  have b0 : bytesOf { data := #[] } = [] := rfl
  obtain ⟨h1, h1e⟩ : ∃ h1, h1 = h0.newCells 28 [.int .u64 (.ofNat m)] := ⟨_, rfl⟩
  have o1 : Only h0 h1 [] := by rw [h1e]; exact (Only.refl _ _).new _ _
  have x1 : h1.nx = h0.nx + 1 := by rw [h1e]; rfl
  have c0 : cellAt h1 h0.nx 0 = some (.int .u64 (.ofNat m)) := by rw [h1e]; simp only [B, xB, F, reduceLT, reduceLeDiff, reduceEqDiff, reduceAdd, reduceMul, reduceSub, ↓reduceIte, eq_self]
  unfold W.n64
  refine pushC_of_codeW (fn := Try.f28) (c := bodyC Try.f28) Try.func28 rfl ?_
  show codeW P 28 43 none _ _ _ _ _
  refine codeW_root ?_
  repeat' (first | ((with_reducible refine st1 ?_); (conv => whnf); (with_reducible refine ⟨?_⟩)) | ((with_reducible refine retW_intro rfl ?_); (conv => arg 2; whnf)) | ((with_reducible first | refine iB ?_ ?_ | refine gWt ?_ ?_ | refine gWf ?_ ?_) <;> intro hb <;> (try simp only [hb])) | (simp only [B, F, reduceLT, reduceLeDiff, reduceEqDiff, reduceAdd, reduceMul, reduceSub, ↓reduceIte, eq_self, b0, ← h1e, c0]))
  refine ((keptC h1 b m R s (hx.keep o1) hz).call P).mono P ?_
  rintro v hk ⟨o2, g2⟩
  have go2 := g2.one
  have oK := o1.t o2
  have x2 := o2.1
  have hxk := (hx.keep o1).keep o2
  have hlt := hx.ix.lt
  have xb := oK.1
  obtain ⟨h3, h3e⟩ : ∃ h3, h3 = hk.newCells 105 [.nilslice] := ⟨_, rfl⟩
  have o3 : Only hk h3 [] := by rw [h3e]; exact (Only.refl _ _).new _ _
  have x3 : h3.nx = hk.nx + 1 := by rw [h3e]; rfl
  have z3 : cellAt h3 hk.nx 0 = some .nilslice := by rw [h3e]; simp only [B, F, reduceLT, reduceLeDiff, reduceEqDiff, reduceAdd, reduceMul, reduceSub, ↓reduceIte, eq_self]
  have w3 : wrAt h3 hk.nx = true := by rw [h3e]; simp only [B, F, reduceLT, reduceLeDiff, reduceEqDiff, reduceAdd, reduceMul, reduceSub, ↓reduceIte, eq_self]
  repeat' (first | ((with_reducible refine st1 ?_); (conv => whnf); (with_reducible refine ⟨?_⟩)) | ((with_reducible refine retW_intro rfl ?_); (conv => arg 2; whnf)) | ((with_reducible first | refine iB ?_ ?_ | refine gWt ?_ ?_ | refine gWf ?_ ?_) <;> intro hb <;> (try simp only [hb])) | (simp only [B, F, reduceLT, reduceLeDiff, reduceEqDiff, reduceAdd, reduceMul, reduceSub, ↓reduceIte, eq_self, go2, b0, ← h3e]))
  refine ((fromC h3 b [] [] true).call P).mono P ?_
  rintro v4 h4 ⟨rfl, o4, x4, f0, f1, f3, f2⟩
  rw [x3] at f0 f1 f2 f3 x4
  rw [x3]
  have ck := W.kcell c0 o2 (by omega) (by simp)
  repeat' (first | ((with_reducible refine st1 ?_); (conv => whnf); (with_reducible refine ⟨?_⟩)) | ((with_reducible refine retW_intro rfl ?_); (conv => arg 2; whnf)) | ((with_reducible first | refine iB ?_ ?_ | refine gWt ?_ ?_ | refine gWf ?_ ?_) <;> intro hb <;> (try simp only [hb])) | (simp only [B, F, reduceLT, reduceLeDiff, reduceEqDiff, reduceAdd, reduceMul, reduceSub, ↓reduceIte, eq_self]))
  refine compLoop hk h4 b h0.nx m R s hxk hz _ (o3.t o4) x4 (by omega) ck f0 f1 f3 f2 (W.kcell z3 o4 (by omega) (by simp)) (W.kwr w3 o4 (by omega) (by simp)) (by simp only [B, F, reduceLT, reduceLeDiff, reduceEqDiff, reduceAdd, reduceMul, reduceSub, ↓reduceIte, eq_self]) (by simp only [B, F, reduceLT, reduceLeDiff, reduceEqDiff, reduceAdd, reduceMul, reduceSub, ↓reduceIte, eq_self]) (by simp only [B, F, reduceLT, reduceLeDiff, reduceEqDiff, reduceAdd, reduceMul, reduceSub, ↓reduceIte, eq_self]) _ ?_
  intro h5 sv X o5 x5 hd sc sg sx sn sp
  have so := sg.one
  have sce := sg.cells
  have cb : cellAt h5 b 0 = some s := W.kcell hxk.ix.c0 o5 (by omega) (by simp)
  have wb : wrAt h5 b = true := W.kwr hxk.wr o5 (by omega) (by simp)
  repeat' (first | ((with_reducible refine st1 ?_); (conv => whnf); (with_reducible refine ⟨?_⟩)) | ((with_reducible refine retW_intro rfl ?_); (conv => arg 2; whnf)) | ((with_reducible first | refine iB ?_ ?_ | refine gWt ?_ ?_ | refine gWf ?_ ?_) <;> intro hb <;> (try simp only [hb])) | (simp only [B, F, reduceLT, reduceLeDiff, reduceEqDiff, reduceAdd, reduceMul, reduceSub, ↓reduceIte, eq_self, so, sce, sc, cb, wb, put_sts, go2]))
  have hbk : ∀ c, blkOf sv = some c → hk.nx + 7 ≤ c ∧ c < h5.nx := fun c e => sg.base e
  have hbv : ∀ c, blkOf v = some c → h1.nx ≤ c ∧ c < hk.nx := fun c e => g2.base e
  refine retW_undef (by rw [get_sts _ _ _ _ (by omega)]; exact hd) rfl ?_
  (conv => arg 2; whnf)
  simp only [B, F, reduceLT, reduceLeDiff, reduceEqDiff, reduceAdd, reduceMul, reduceSub, ↓reduceIte, eq_self]
  obtain ⟨h6, h6e⟩ : ∃ h6, h6 = (h5.sts b 0 [sv]).obj (hk.nx + 5) (.deferred none) := ⟨_, rfl⟩
  rw [← h6e]
  have g6 : ∀ c, c ≠ b → c ≠ hk.nx + 5 → h6.t.get c = h5.t.get c := fun c n1 n2 => by rw [h6e, get_obj_ne n2, get_sts _ _ _ _ n1]
  have x6 : h6.nx = h5.nx := by rw [h6e, nx_obj, nx_sts]
  have oF : Only h0 h6 [b] := ⟨by omega, fun c hc hn => by rw [g6 c (fun e => hn (by simp [e])) (by omega)]; exact (oK.t o5).2 c hc (by simp)⟩
  have oG : Only h5 h6 [b, hk.nx + 5] := ⟨by omega, fun c hc hn => g6 c (fun e => hn (by simp [e])) (fun e => hn (by simp [e]))⟩
  refine ⟨oF, ?_, X, sv, sx, ⟨⟨by omega, ?_, ?_, fun p hp => ?_, compR_srt m hx.ix.sr sx, ?_, fun c hc => hx.ix.fl c (by omega)⟩, ?_, ?_, fun e => by have := (hbk b e).1; omega⟩, fun c e e2 => by have := hbk c e2; have := hbv c e; omega, fun c e => by have := hbk c e; omega⟩
  · exact (g2.weak (by omega)).of_get (by omega) (fun c e => by have := hbv c e; rw [g6 c (by omega) (by omega), o5.2 c (by omega) (by simp)])
  · rw [h6e, cellAt_obj (by omega), cellAt_sts wb, if_pos ⟨rfl, Nat.le_refl _, by simp⟩]; rfl
  · exact (sg.of_get (h' := h6) (by omega) (fun c e => by have := hbk c e; exact g6 c (by omega) (by omega))).slice
  · exact ((sp p hp).keep oG (fun c hc e => by simp at hc; omega)).mono fun c _ e => ⟨by omega, e.1, hx.ix.fl c (by omega)⟩
  · have h1 : X.length = (compR m R).length := by rw [← sx, List.length_map]
    have h2 := compR_len m R
    have := hx.ix.zz
    omega
  · exact (sg.of_get (h' := h6) (by omega) (fun c e => by have := hbk c e; exact g6 c (by omega) (by omega))).row (fun e => sn (List.length_eq_zero_iff.1 e))
  · rw [h6e, wrAt_obj (by omega), wrAt_sts]; exact wb
theorem compactC (h : H) (b m : Nat) (R : List Pr) (s : AV) (hx : IxR N h b R s) (hz : ∀ p, p ∈ R → W.Sz 1000 p.L) :
    PushC P (.enter 28 [.ptr b 0, W.n64 m] h) fun v h' => Only h h' [b] ∧ Grows 2 h.nx h' v (keptL m R).length (W.rvsC (keptL m R)) ∧ ∃ R' s', R'.map kl = compR m R ∧ Nb h s s' ∧ IxR N h' b R' s' := by
  refine (compactC0 h b m R s hx hz).cellOpen ?_
  rintro v h1 ⟨o1, g1, R1, s1, hR1, hx1, hv1, hbk⟩
  cases q : opnV s1 with
  | false => exact .inl ⟨o1, g1, R1, s1, hR1, fun c e => .inr (hbk c e), hx1, q⟩
  | true =>
    refine .inr ?_
    obtain ⟨⟨lt, c0, sl, gg, sr, zz, fl⟩, hrw, wr, ne⟩ := hx1
    have hlt0 := hx.ix.lt
    obtain ⟨n, hn⟩ : ∃ n, n = R1.length := ⟨_, rfl⟩
    obtain ⟨cs, hcs⟩ : ∃ cs, cs = prsC R1 := ⟨_, rfl⟩
    rw [← hn, ← hcs] at hrw
    cases hrw with
    | nil => cases q
    | exa bl n c ty cs h0 hl hc hr => cases q
    | opn bl n m ty cs h0 hl hm hr =>
      obtain ⟨hlt, t, hg1, ht⟩ := hr
      have hwr := wr
      unfold wrAt at wr
      unfold cellAt at c0
      split at wr
      · rename_i mb tb kb hgb
        rw [hgb] at c0
        simp only at c0
        have hne : b ≠ bl := fun e => ne (by rw [e]; rfl)
        refine ⟨b, 0, bl, n, mb, m, tb, t, kb, ⟨2, ty⟩, false, hgb, c0, hg1, (show 0 < 2 by omega), hne, hm, fun c h1c h2c => ?_⟩
        have h2c : m ≤ c * 2 := h2c
        have hget := cellOpen_get (j := 0) (n := n) (c := c) hgb hg1 hne
        obtain ⟨h2, h2e⟩ : ∃ h2, h2 = AX.cellOpen h1 b 0 bl n c := ⟨_, rfl⟩
        rw [← h2e] at hget ⊢
        have hx2 : h2.nx = h1.nx := by rw [h2e]; exact cellOpen_nx _ _ _ _ _ _
        have o2 : Only h1 h2 [b, bl] := ⟨by omega, fun c' hc' hn' => by rw [hget, if_neg (fun e => hn' (by simp [e])), if_neg (fun e => hn' (by simp [e]))]⟩
        have hrow : RowV h2 (.slice bl 0 n (.exact c)) n cs := .exa bl n c ty cs h0 hl h1c ⟨by omega, t, by rw [hget, if_neg (fun e => hne e.symm), if_pos rfl], ht⟩
        have hbl := hbk _ rfl
        refine ⟨⟨by have := o1.1; omega, fun c' hc' hn' => ?_⟩, ?_, R1, .slice bl 0 n (.exact c), hR1, fun c' e => .inr (hbk c' e), ⟨⟨⟨by omega, ?_, by rw [← hn, ← hcs]; exact hrow.slice, fun p hp => ?_, sr, zz, fun c hc => fl c (by omega)⟩, by rw [← hn, ← hcs]; exact hrow, ?_, ne⟩, rfl⟩⟩
        · rw [hget, if_neg (fun e => hn' (by simp [e])), if_neg (by omega)]
          exact o1.2 c' hc' hn'
        · refine g1.of_get (by omega) (fun c' e => ?_)
          have hb1 := g1.base e
          have hb2 := hv1 c' e
          rw [hget, if_neg (by omega), if_neg (fun e2 => hb2 (by rw [e2]; rfl))]
        · unfold cellAt; rw [hget, if_pos rfl]
          show T.get (T.set _ _ _) 0 = _
          rw [T.get_set, if_pos rfl]
        · exact ((gg p hp).keep o2 (fun c' hc' e => by
            rcases List.mem_cons.1 hc' with e1 | e1
            · exact e.1 e1
            · rw [List.mem_singleton] at e1; exact e.2 (by rw [e1]; rfl))).mono fun c' _ e => ⟨e.nb, e.ns, e.fl⟩
        · unfold wrAt; rw [hget, if_pos rfl]
      · cases wr
end
end Go.Proofs.Ytlkngpckibidlaa.X

namespace Go.Proofs.Ytlkngpckibidlaa.X
open Go Go.AX
noncomputable section
set_option maxRecDepth 100000
def hsC (A : List Rc) : List AV := A.flatMap rcC
theorem rcC_len (r : Rc) : (rcC r).length = 8 := rfl
def rc0 : Rc := ⟨(0, 0), [], [], 0, 0, 0, false⟩
def fP (k : List Nat) (m : Nat) (r : Rc) : Bool := decide (r.key = k) && decide (r.rev.1 ≤ m)
def lstF (k : List Nat) (m : Nat) (A : List Rc) : Option Rc := (A.filter (fP k m)).getLast?
def outF (k : List Nat) (m : Nat) (A : List Rc) : Rc := (lstF k m A).getD rc0
def isF (k : List Nat) (m : Nat) (A : List Rc) : Bool := match lstF k m A with | some r => !r.tomb | none => false
theorem lstF_take {k : List Nat} {m : Nat} {A : List Rc} {i : Nat} {r : Rc} (hr : A[i]? = some r) : lstF k m (A.take (i + 1)) = if fP k m r then some r else lstF k m (A.take i) := by
  unfold lstF
  rw [List.take_add_one, hr, List.filter_append]
  cases q : fP k m r with
  | true => simp [q]
  | false => simp [q]
theorem rcC_at {h : H} {b o n : Nat} {cap : Cap} {A : List Rc} (hs : SliceAt h (.slice b o n cap) n (hsC A)) {i : Nat} {x : Rc} (hx : A[i]? = some x) :
    cellAt h b (o + i * 8) = some (.int .u64 (.ofNat x.rev.1)) ∧ cellAt h b (o + (i * 8 + 1)) = some (.int .u64 (.ofNat x.rev.2)) ∧ cellAt h b (o + (i * 8 + 2)) = some (.str x.key) ∧ cellAt h b (o + (i * 8 + 3)) = some (.str x.val) ∧
    cellAt h b (o + (i * 8 + 4)) = some (.int .u64 (.ofNat x.create)) ∧ cellAt h b (o + (i * 8 + 5)) = some (.int .u64 (.ofNat x.mod)) ∧ cellAt h b (o + (i * 8 + 6)) = some (.int .u64 (.ofNat x.version)) ∧ cellAt h b (o + (i * 8 + 7)) = some (.bool x.tomb) := by
  have hc := fun j (hj : j < 8) => W.sl_cell rcC_len hs hx hj
  simp only [Nat.add_assoc] at hc
  exact ⟨hc 0 (by omega), hc 1 (by omega), hc 2 (by omega), hc 3 (by omega), hc 4 (by omega), hc 5 (by omega), hc 6 (by omega), hc 7 (by omega)⟩
structure FoI (hs : H) (hv : AV) (k : List Nat) (m : Nat) (A : List Rc) (b6 b8 : Nat) (n : Nat) (ds : List Nat) (tm : T AV) (h : H) (i : Nat) : Prop where
  ds : ds = []
  nn : n = A.length - i
  ii : i ≤ A.length
  t0 : tm.get 0 = some hv
  t1 : tm.get 1 = some (.str k)
  t2 : tm.get 2 = some (.int .u64 (.ofNat m))
  t6 : tm.get 6 = some (.ptr b6 0)
  t8 : tm.get 8 = some (.ptr b8 0)
  t9 : tm.get 9 = some (.bool (isF k m (A.take i)))
  t10 : tm.get 10 = some (.int .i64 (.ofNat i))
  oo : Only hs h [b8]
  c8 : ∀ j, j < 8 → cellAt h b8 j = (rcC (outF k m (A.take i)))[j]?
  w8 : wrAt h b8 = true
theorem foldedC (h0 : H) (hv : AV) (k : List Nat) (m : Nat) (A : List Rc) (hA : SliceAt h0 hv A.length (hsC A)) (hz : A.length ≤ 100000) :
    PushC P (.enter 29 [hv, .str k, W.n64 m] h0) (W.Says h0 (.tuple [rcA (outF k m A), .bool (isF k m A)])) := by
  have hlen := hA.len (P := P) u61
  unfold W.n64
  refine pushC_of_codeW (fn := Try.f29) (c := bodyC Try.f29) Try.func29 rfl ?_
  show codeW P 29 48 none _ _ _ _ _
  refine codeW_root ?_
  repeat' (first | ((with_reducible refine st1 ?_); (conv => whnf); (with_reducible refine ⟨?_⟩)) | ((with_reducible refine retW_intro rfl ?_); (conv => arg 2; whnf)) | ((with_reducible first | refine iB ?_ ?_ | refine gWt ?_ ?_ | refine gWf ?_ ?_) <;> intro hb <;> (try simp only [hb])) | (simp only [B, F, reduceLT, reduceLeDiff, reduceEqDiff, reduceAdd, reduceMul, reduceSub, ↓reduceIte, eq_self]))
  obtain ⟨hs, hse⟩ : ∃ hs, hs = ((h0.newCells 68 (rcC rc0)).newCells 68 (rcC rc0)).sts (h0.nx + 1) 0 (rcC rc0) := ⟨_, rfl⟩
  have os : Only h0 hs [] := by rw [hse]; exact (((Only.refl _ _).new _ _).new _ _).sts (.inr (by omega))
  have xs : hs.nx = h0.nx + 2 := by rw [hse, nx_sts]; rfl
  have ws : wrAt hs (h0.nx + 1) = true := by rw [hse, wrAt_sts, wrAt_new, nx_new, if_pos rfl]
  have cs : ∀ j, j < 8 → cellAt hs (h0.nx + 1) j = (rcC rc0)[j]? := fun j hj => by
    rw [hse, cellAt_sts (by rw [wrAt_new, nx_new, if_pos rfl]), if_pos ⟨rfl, Nat.zero_le _, by rw [rcC_len]; omega⟩]; rfl
  have ws6 : wrAt hs h0.nx = true := by rw [hse, wrAt_sts, wrAt_new, nx_new, if_neg (by omega), wrAt_new, if_pos rfl]
  have cs6 : ∀ j, j < 8 → cellAt hs h0.nx j = (rcC rc0)[j]? := fun j hj => by
    rw [hse, cellAt_sts (by rw [wrAt_new, nx_new, if_pos rfl]), if_neg (by omega), cellAt_new, nx_new, if_neg (by omega), cellAt_new, if_pos rfl]
  have hse' := hse
  unfold rcC rc0 at hse'
  rw [← hse']
  refine st_loop (fun n ds tm h => ∃ i, FoI hs hv k m A h0.nx (h0.nx + 1) n ds tm h i) A.length rfl ⟨0, rfl, rfl, Nat.zero_le _, by simp only [B, F, reduceLT, reduceLeDiff, reduceEqDiff, reduceAdd, reduceMul, reduceSub, ↓reduceIte, eq_self], by simp only [B, F, reduceLT, reduceLeDiff, reduceEqDiff, reduceAdd, reduceMul, reduceSub, ↓reduceIte, eq_self], by simp only [B, F, reduceLT, reduceLeDiff, reduceEqDiff, reduceAdd, reduceMul, reduceSub, ↓reduceIte, eq_self], by simp only [B, F, reduceLT, reduceLeDiff, reduceEqDiff, reduceAdd, reduceMul, reduceSub, ↓reduceIte, eq_self], by simp only [B, F, reduceLT, reduceLeDiff, reduceEqDiff, reduceAdd, reduceMul, reduceSub, ↓reduceIte, eq_self], (by rw [List.take_zero]; simp only [B, F, reduceLT, reduceLeDiff, reduceEqDiff, reduceAdd, reduceMul, reduceSub, ↓reduceIte, eq_self]; rfl), by simp only [B, F, reduceLT, reduceLeDiff, reduceEqDiff, reduceAdd, reduceMul, reduceSub, ↓reduceIte, eq_self], Only.refl _ _, fun j hj => cs j hj, ws⟩ (fun n ds tm h hI => ?_)
  clear hse'
  obtain ⟨i, rfl, rfl, ii, t0, t1, t2, t6, t8, t9, t10, oo, c8, w8⟩ := hI
  have hx := oo.1
  by_cases hi : i < A.length
  · have d1 : decide (i < A.length) = true := decide_eq_true hi
    have lt1 : (i < A.length) = True := by simp [hi]
    have w1 : wrapF .i64 (Int.ofNat i + Int.ofNat 1) = Int.ofNat (i + 1) := i64_add (by omega)
    obtain ⟨r, hr⟩ : ∃ r, A[i]? = some r := ⟨_, List.getElem?_eq_getElem hi⟩
    obtain ⟨bl, o, cap, rfl, hb, -⟩ := hA.place (by omega)
    obtain ⟨p0, p1, p2, p3, p4, p5, p6, p7⟩ := rcC_at hA hr
    have kp : ∀ {j : Nat} {x : Option AV}, cellAt h0 bl j = x → cellAt h bl j = x := fun e => W.kcell (W.kcell e os hb (by simp)) oo (by omega) (by simp; omega)
    replace p0 := kp p0
    replace p1 := kp p1
    replace p2 := kp p2
    replace p3 := kp p3
    replace p4 := kp p4
    replace p5 := kp p5
    replace p6 := kp p6
    replace p7 := kp p7
    have lt := lstF_take (k := k) (m := m) hr
    have e0 : cellAt h (h0.nx + 1) 0 = some _ := c8 0 (by omega)
    have e1 : cellAt h (h0.nx + 1) 1 = some _ := c8 1 (by omega)
    have e2 : cellAt h (h0.nx + 1) 2 = some _ := c8 2 (by omega)
    have e3 : cellAt h (h0.nx + 1) 3 = some _ := c8 3 (by omega)
    have e4 : cellAt h (h0.nx + 1) 4 = some _ := c8 4 (by omega)
    have e5 : cellAt h (h0.nx + 1) 5 = some _ := c8 5 (by omega)
    have e6 : cellAt h (h0.nx + 1) 6 = some _ := c8 6 (by omega)
    have e7 : cellAt h (h0.nx + 1) 7 = some _ := c8 7 (by omega)
    have nb : (bl = h0.nx + 1) = False := by simp; omega
    have skip9 : fP k m r = false → isF k m (A.take (i + 1)) = isF k m (A.take i) ∧ outF k m (A.take (i + 1)) = outF k m (A.take i) := fun q => by
      rw [q, if_neg (by simp)] at lt
      unfold isF outF; rw [lt]; exact ⟨rfl, rfl⟩
    cases q1 : decide (r.key = k) with
    | false =>
      have hq : fP k m r = false := by unfold fP; rw [q1]; rfl
      repeat' (first | ((with_reducible refine st1 ?_); (conv => whnf); (with_reducible refine ⟨?_⟩)) | ((with_reducible refine retW_intro rfl ?_); (conv => arg 2; whnf)) | ((with_reducible first | refine iB ?_ ?_ | refine gWt ?_ ?_ | refine gWf ?_ ?_) <;> intro hb <;> (try simp only [hb])) | (simp only [B, F, reduceLT, reduceLeDiff, reduceEqDiff, reduceAdd, reduceMul, reduceSub, ↓reduceIte, eq_self, t0, t1, t2, t6, t8, t9, t10, hlen, d1, lt1, w1, p0, p1, p2, p3, p4, p5, p6, p7, q1]))
      exact ⟨A.length - (i + 1), by omega, i + 1, rfl, rfl, hi, by simp only [B, F, reduceLT, reduceLeDiff, reduceEqDiff, reduceAdd, reduceMul, reduceSub, ↓reduceIte, eq_self, t0], by simp only [B, F, reduceLT, reduceLeDiff, reduceEqDiff, reduceAdd, reduceMul, reduceSub, ↓reduceIte, eq_self, t1], by simp only [B, F, reduceLT, reduceLeDiff, reduceEqDiff, reduceAdd, reduceMul, reduceSub, ↓reduceIte, eq_self, t2], by simp only [B, F, reduceLT, reduceLeDiff, reduceEqDiff, reduceAdd, reduceMul, reduceSub, ↓reduceIte, eq_self, t6], by simp only [B, F, reduceLT, reduceLeDiff, reduceEqDiff, reduceAdd, reduceMul, reduceSub, ↓reduceIte, eq_self, t8], (by rw [(skip9 hq).1]; simp only [B, F, reduceLT, reduceLeDiff, reduceEqDiff, reduceAdd, reduceMul, reduceSub, ↓reduceIte, eq_self, t9]), by simp only [B, F, reduceLT, reduceLeDiff, reduceEqDiff, reduceAdd, reduceMul, reduceSub, ↓reduceIte, eq_self], oo, (fun j hj => by rw [(skip9 hq).2]; exact c8 j hj), w8⟩
    | true =>
      cases q2 : decide (r.rev.1 ≤ m) with
      | false =>
        have hq : fP k m r = false := by unfold fP; rw [q1, q2]; rfl
        repeat' (first | ((with_reducible refine st1 ?_); (conv => whnf); (with_reducible refine ⟨?_⟩)) | ((with_reducible refine retW_intro rfl ?_); (conv => arg 2; whnf)) | ((with_reducible first | refine iB ?_ ?_ | refine gWt ?_ ?_ | refine gWf ?_ ?_) <;> intro hb <;> (try simp only [hb])) | (simp only [B, F, reduceLT, reduceLeDiff, reduceEqDiff, reduceAdd, reduceMul, reduceSub, ↓reduceIte, eq_self, t0, t1, t2, t6, t8, t9, t10, hlen, d1, lt1, w1, p0, p1, p2, p3, p4, p5, p6, p7, q1, q2]))
        exact ⟨A.length - (i + 1), by omega, i + 1, rfl, rfl, hi, by simp only [B, F, reduceLT, reduceLeDiff, reduceEqDiff, reduceAdd, reduceMul, reduceSub, ↓reduceIte, eq_self, t0], by simp only [B, F, reduceLT, reduceLeDiff, reduceEqDiff, reduceAdd, reduceMul, reduceSub, ↓reduceIte, eq_self, t1], by simp only [B, F, reduceLT, reduceLeDiff, reduceEqDiff, reduceAdd, reduceMul, reduceSub, ↓reduceIte, eq_self, t2], by simp only [B, F, reduceLT, reduceLeDiff, reduceEqDiff, reduceAdd, reduceMul, reduceSub, ↓reduceIte, eq_self, t6], by simp only [B, F, reduceLT, reduceLeDiff, reduceEqDiff, reduceAdd, reduceMul, reduceSub, ↓reduceIte, eq_self, t8], (by rw [(skip9 hq).1]; simp only [B, F, reduceLT, reduceLeDiff, reduceEqDiff, reduceAdd, reduceMul, reduceSub, ↓reduceIte, eq_self, t9]), by simp only [B, F, reduceLT, reduceLeDiff, reduceEqDiff, reduceAdd, reduceMul, reduceSub, ↓reduceIte, eq_self], oo, (fun j hj => by rw [(skip9 hq).2]; exact c8 j hj), w8⟩
      | true =>
        have hq : fP k m r = true := by unfold fP; rw [q1, q2]; rfl
        rw [hq, if_pos rfl] at lt
        repeat' (first | ((with_reducible refine st1 ?_); (conv => whnf); (with_reducible refine ⟨?_⟩)) | ((with_reducible refine retW_intro rfl ?_); (conv => arg 2; whnf)) | ((with_reducible first | refine iB ?_ ?_ | refine gWt ?_ ?_ | refine gWf ?_ ?_) <;> intro hb <;> (try simp only [hb])) | (simp only [B, F, reduceLT, reduceLeDiff, reduceEqDiff, reduceAdd, reduceMul, reduceSub, ↓reduceIte, eq_self, t0, t1, t2, t6, t8, t9, t10, hlen, d1, lt1, w1, p0, p1, p2, p3, p4, p5, p6, p7, q1, q2, e0, e1, e2, e3, e4, e5, e6, e7, w8, put_sts, nb, false_and]))
        have hcl : outF k m (A.take (i + 1)) = r ∧ isF k m (A.take (i + 1)) = !r.tomb := by
          unfold outF isF; rw [lt]; exact ⟨rfl, rfl⟩
        refine ⟨A.length - (i + 1), by omega, i + 1, rfl, rfl, hi, by simp only [B, F, reduceLT, reduceLeDiff, reduceEqDiff, reduceAdd, reduceMul, reduceSub, ↓reduceIte, eq_self, t0], by simp only [B, F, reduceLT, reduceLeDiff, reduceEqDiff, reduceAdd, reduceMul, reduceSub, ↓reduceIte, eq_self, t1], by simp only [B, F, reduceLT, reduceLeDiff, reduceEqDiff, reduceAdd, reduceMul, reduceSub, ↓reduceIte, eq_self, t2], by simp only [B, F, reduceLT, reduceLeDiff, reduceEqDiff, reduceAdd, reduceMul, reduceSub, ↓reduceIte, eq_self, t6], by simp only [B, F, reduceLT, reduceLeDiff, reduceEqDiff, reduceAdd, reduceMul, reduceSub, ↓reduceIte, eq_self, t8], (by rw [hcl.2]; simp only [B, F, reduceLT, reduceLeDiff, reduceEqDiff, reduceAdd, reduceMul, reduceSub, ↓reduceIte, eq_self]), by simp only [B, F, reduceLT, reduceLeDiff, reduceEqDiff, reduceAdd, reduceMul, reduceSub, ↓reduceIte, eq_self], oo.sts (.inl (by simp)), (fun j hj => ?_), by rw [wrAt_sts]; exact w8⟩
        rw [hcl.1, cellAt_sts w8, if_pos ⟨rfl, Nat.zero_le _, by simp; omega⟩]; rfl
  · have d1 : decide (i < A.length) = false := decide_eq_false hi
    obtain rfl : i = A.length := by omega
    rw [List.take_length] at t9 c8
    have e0 : cellAt h (h0.nx + 1) 0 = some _ := c8 0 (by omega)
    have e1 : cellAt h (h0.nx + 1) 1 = some _ := c8 1 (by omega)
    have e2 : cellAt h (h0.nx + 1) 2 = some _ := c8 2 (by omega)
    have e3 : cellAt h (h0.nx + 1) 3 = some _ := c8 3 (by omega)
    have e4 : cellAt h (h0.nx + 1) 4 = some _ := c8 4 (by omega)
    have e5 : cellAt h (h0.nx + 1) 5 = some _ := c8 5 (by omega)
    have e6 : cellAt h (h0.nx + 1) 6 = some _ := c8 6 (by omega)
    have e7 : cellAt h (h0.nx + 1) 7 = some _ := c8 7 (by omega)
    have k6 : ∀ j, j < 8 → cellAt h h0.nx j = (rcC rc0)[j]? := fun j hj => W.kcell (cs6 j hj) oo (by omega) (by simp)
    have f0 : cellAt h h0.nx 0 = some _ := k6 0 (by omega)
    have f1 : cellAt h h0.nx 1 = some _ := k6 1 (by omega)
    have f2 : cellAt h h0.nx 2 = some _ := k6 2 (by omega)
    have f3 : cellAt h h0.nx 3 = some _ := k6 3 (by omega)
    have f4 : cellAt h h0.nx 4 = some _ := k6 4 (by omega)
    have f5 : cellAt h h0.nx 5 = some _ := k6 5 (by omega)
    have f6 : cellAt h h0.nx 6 = some _ := k6 6 (by omega)
    have f7 : cellAt h h0.nx 7 = some _ := k6 7 (by omega)
    have w6 := W.kwr ws6 oo (by omega) (by simp)
    repeat' (first | ((with_reducible refine st1 ?_); (conv => whnf); (with_reducible refine ⟨?_⟩)) | ((with_reducible refine retW_intro rfl ?_); (conv => arg 2; whnf)) | ((with_reducible first | refine iB ?_ ?_ | refine gWt ?_ ?_ | refine gWf ?_ ?_) <;> intro hb <;> (try simp only [hb])) | (simp only [B, F, reduceLT, reduceLeDiff, reduceEqDiff, reduceAdd, reduceMul, reduceSub, ↓reduceIte, eq_self, t0, t1, t2, t6, t8, t9, t10, hlen, d1, e0, e1, e2, e3, e4, e5, e6, e7, f0, f1, f2, f3, f4, f5, f6, f7, w6, put_sts]))
    exact ⟨rfl, (os.trans oo (fun _ h => h) (fun c hc => .inr (by simp at hc; omega))).sts (.inr (Nat.le_refl _))⟩
end
end Go.Proofs.Ytlkngpckibidlaa.X

namespace Go.Proofs.Ytlkngpckibidlaa.X
open Go Go.AX
noncomputable section
set_option maxRecDepth 100000
variable {N : Nat → Prop}
theorem row_cells {h : H} {b o k : Nat} {cs : List AV} (hc : CellsAt h b o cs) (hk : cs.length = k + 1) : h.row b o (k + 1) = some cs := by
  have h0 : cs ≠ [] := fun e => by rw [e] at hk; simp at hk
  have := row_ok hc h0
  rw [hk] at this; exact this
theorem u8_nat {a : Nat} (hs : a < 256) : wrapF .u8 (Int.ofNat a) = Int.ofNat a := by
  unfold wrapF
  exact Int.emod_eq_of_lt (by simp) (by simp; omega)
theorem u9s : P.underlying 9 = some .string := by kernel_rfl
theorem u5b : P.underlying 5 = some (.int .u8) := by kernel_rfl
theorem conv_b1 {h : H} {b n : Nat} (hc : cellAt h b 0 = some (.int .u8 (.ofNat n))) (hn : n < 256) : convR P 22 9 (.slice b 0 1 (.exact 1)) h = .val (.str [n]) h := by
  have hr : h.row b 0 1 = some [.int .u8 (.ofNat n)] := row_cells (k := 0) (fun i hi => by
    match i with
    | 0 => exact hc) rfl
  have hb : bytesA [.int .u8 (.ofNat n)] = some [n] := by
    unfold bytesA
    have : allByte [AV.int .u8 (.ofNat n)] = true := rfl
    rw [this]
    show some [n % 256] = _
    rw [Nat.mod_eq_of_lt hn]
  unfold convR
  rw [u22, u9s]
  unfold convertA
  simp only [u22, u9s, u5b, hr, hb]
def kk (i : Nat) : List Nat := [97 + i]
def gI (A : List Rc) (m i : Nat) : Option It := if isF (kk i) m A then some ⟨kk i, (outF (kk i) m A).rev, (outF (kk i) m A).create, (outF (kk i) m A).version⟩ else none
def gL (A : List Rc) (m i : Nat) : List It := (List.range i).filterMap (gI A m)
theorem gL_succ (A : List Rc) (m i : Nat) : gL A m (i + 1) = gL A m i ++ (gI A m i).toList := by
  unfold gL; rw [List.range_succ, List.filterMap_append]
  cases h : gI A m i <;> simp [h]
theorem gL_at {A : List Rc} {m i : Nat} {x : It} (hx : gI A m i = some x) : ∀ n, i < n → (gL A m n)[(gL A m i).length]? = some x
  | 0, h => by omega
  | n + 1, h => by
    rw [gL_succ]
    by_cases q : i = n
    · subst q; rw [hx]; simp
    · have ih := gL_at hx n (by omega)
      rw [List.getElem?_append_left (List.getElem?_eq_some_iff.1 ih).1]; exact ih
theorem gL_len (A : List Rc) (m : Nat) : ∀ n, (gL A m n).length ≤ n
  | 0 => Nat.le_refl _
  | n + 1 => by
    rw [gL_succ, List.length_append]
    have := gL_len A m n
    cases gI A m n <;> simp <;> omega
structure Fits (A : List Rc) (m : Nat) (R : List Pr) : Prop where
  at_ : ∀ i, i < 8 → W.atB (getL (kk i) R) m = isF (kk i) m A
  kk_ : ∀ i, i < 8 → isF (kk i) m A = true → (W.atK (getL (kk i) R) m).rev = (outF (kk i) m A).rev ∧ (W.atK (getL (kk i) R) m).made = (outF (kk i) m A).create ∧ (W.atK (getL (kk i) R) m).nth = (outF (kk i) m A).version
  it_ : itsL m R = gL A m 8
  sz_ : ∀ p, p ∈ R → W.Sz 1000 p.L
  a0_ : atK [97] R = 0
theorem getL_mem {k : List Nat} {R : List Pr} : getL k R = [] ∨ ∃ p, p ∈ R ∧ getL k R = p.L := by
  unfold getL
  split
  · rename_i p hp
    split
    · exact .inr ⟨p, List.mem_of_getElem? hp, rfl⟩
    · exact .inl rfl
  · exact .inl rfl
theorem Fits.szg {A : List Rc} {m : Nat} {R : List Pr} (hf : Fits A m R) (k : List Nat) : W.Sz 1000 (getL k R) := by
  rcases getL_mem (k := k) (R := R) with h | ⟨p, hp, h⟩
  · rw [h]; exact ⟨by simp, fun g hg => by cases hg⟩
  · rw [h]; exact hf.sz_ p hp
structure TdI (hs : H) (b : Nat) (hv v : AV) (m : Nat) (A : List Rc) (n : Nat) (ds : List Nat) (tm : T AV) (h : H) (i : Nat) : Prop where
  ds : ds = []
  nn : n = 8 - i
  ii : i ≤ 8
  t0 : tm.get 0 = some (.ptr b 0)
  t1 : tm.get 1 = some hv
  t2 : tm.get 2 = some (.int .u64 (.ofNat m))
  t7 : tm.get 7 = some v
  t8 : tm.get 8 = some (.int .i64 (.ofNat (gL A m i).length))
  t9 : tm.get 9 = some (.int .i64 (.ofNat i))
  oo : Only hs h []
theorem toldC (h0 : H) (b : Nat) (R : List Pr) (s hv : AV) (A : List Rc) (m : Nat) (hx : IxR N h0 b R s) (hA : SliceAt h0 hv A.length (hsC A)) (hz : A.length ≤ 100000) (hf : Fits A m R) :
    PushC P (.enter 27 [.ptr b 0, hv, W.n64 m] h0) (W.Says h0 (.bool true)) := by
  have b0 : bytesOf { data := #[97] } = [97] := rfl
  have b1 : bytesOf { data := #[0] } = [0] := rfl
  have ho := W.SliceAt.one hA
  unfold W.n64
  refine pushC_of_codeW (fn := Try.f27) (c := bodyC Try.f27) Try.func27 rfl ?_
  show codeW P 27 80 none _ _ _ _ _
  refine codeW_root ?_
  repeat' (first | ((with_reducible refine st1 ?_); (conv => whnf); (with_reducible refine ⟨?_⟩)) | ((with_reducible refine retW_intro rfl ?_); (conv => arg 2; whnf)) | ((with_reducible first | refine iB ?_ ?_ | refine gWt ?_ ?_ | refine gWf ?_ ?_) <;> intro hb <;> (try simp only [hb])) | (simp only [B, xB, F, reduceLT, reduceLeDiff, reduceEqDiff, reduceAdd, reduceMul, reduceSub, ↓reduceIte, eq_self, b0, b1]))
  refine ((rangeC h0 b [97] [0] m R s hx hf.sz_ (by simp)).call P).mono P ?_
  rintro v hs ⟨os, g1⟩
  have hl : rangeI [97] [0] m R = gL A m 8 := by
    rw [← hf.it_]
    unfold rangeI endL lastB fromL
    rw [hf.a0_, List.drop_zero]
    exact congrArg (itsL m) (take_all R fun p => by simp [passB])
  rw [hl] at g1
  have hl8 := gL_len A m 8
  have hlen := g1.slice.len (P := P) u75
  have go1 := g1.one
  repeat' (first | ((with_reducible refine st1 ?_); (conv => whnf); (with_reducible refine ⟨?_⟩)) | ((with_reducible refine retW_intro rfl ?_); (conv => arg 2; whnf)) | ((with_reducible first | refine iB ?_ ?_ | refine gWt ?_ ?_ | refine gWf ?_ ?_) <;> intro hb <;> (try simp only [hb])) | (simp only [B, xB, F, reduceLT, reduceLeDiff, reduceEqDiff, reduceAdd, reduceMul, reduceSub, ↓reduceIte, eq_self, go1]))
  refine st_loop (fun n ds tm h => ∃ i, TdI hs b hv v m A n ds tm h i) 8 rfl ⟨0, rfl, rfl, Nat.zero_le _, by simp only [B, xB, F, reduceLT, reduceLeDiff, reduceEqDiff, reduceAdd, reduceMul, reduceSub, ↓reduceIte, eq_self], by simp only [B, xB, F, reduceLT, reduceLeDiff, reduceEqDiff, reduceAdd, reduceMul, reduceSub, ↓reduceIte, eq_self], by simp only [B, xB, F, reduceLT, reduceLeDiff, reduceEqDiff, reduceAdd, reduceMul, reduceSub, ↓reduceIte, eq_self], by simp only [B, xB, F, reduceLT, reduceLeDiff, reduceEqDiff, reduceAdd, reduceMul, reduceSub, ↓reduceIte, eq_self], (by simp only [B, xB, F, reduceLT, reduceLeDiff, reduceEqDiff, reduceAdd, reduceMul, reduceSub, ↓reduceIte, eq_self]; rfl), by simp only [B, xB, F, reduceLT, reduceLeDiff, reduceEqDiff, reduceAdd, reduceMul, reduceSub, ↓reduceIte, eq_self], Only.refl _ _⟩ (fun n ds tm h hI => ?_)
  obtain ⟨i, rfl, rfl, ii, t0, t1, t2, t7, t8, t9, oo⟩ := hI
  by_cases hi : i < 8
  · have d1 : decide (i < 8) = true := decide_eq_true hi
    have w1 : wrapF .i64 (Int.ofNat i + Int.ofNat 1) = Int.ofNat (i + 1) := i64_add (by omega)
    have w2 : wrapF .u8 (Int.ofNat i) = Int.ofNat i := u8_nat (by omega)
    have w3 : wrapF .u8 (Int.ofNat 97 + Int.ofNat i) = Int.ofNat (97 + i) := u8_nat (a := 97 + i) (by omega)
    obtain ⟨h1, h1e⟩ : ∃ h1, h1 = h.newCells 5 [.int .u8 (.ofNat (97 + i))] := ⟨_, rfl⟩
    have o1 : Only h h1 [] := by rw [h1e]; exact (Only.refl _ _).new _ _
    have x1 : h1.nx = h.nx + 1 := by rw [h1e]; rfl
    have z1 : cellAt h1 h.nx 0 = some (.int .u8 (.ofNat (97 + i))) := by rw [h1e]; simp only [B, xB, F, reduceLT, reduceLeDiff, reduceEqDiff, reduceAdd, reduceMul, reduceSub, ↓reduceIte, eq_self]
    have cb := conv_b1 z1 (by omega)
    repeat' (first | ((with_reducible refine st1 ?_); (conv => whnf); (with_reducible refine ⟨?_⟩)) | ((with_reducible refine retW_intro rfl ?_); (conv => arg 2; whnf)) | ((with_reducible first | refine iB ?_ ?_ | refine gWt ?_ ?_ | refine gWf ?_ ?_) <;> intro hb <;> (try simp only [hb])) | (simp only [B, xB, F, reduceLT, reduceLeDiff, reduceEqDiff, reduceAdd, reduceMul, reduceSub, ↓reduceIte, eq_self, t0, t1, t2, t7, t8, t9, d1, w2, w3, ← h1e, cb]))
    have oh := os.t (oo.t o1)
    refine ((foldedC h1 hv (kk i) m A (hA.only oh (fun _ _ => by simp)) hz).call P).mono P ?_
    rintro v2 h2 ⟨rfl, o2⟩
    have hat := hf.at_ i hi
    have hkk := hf.kk_ i hi
    have hgs := gL_succ A m i
    obtain ⟨r, hr⟩ : ∃ r, r = outF (kk i) m A := ⟨_, rfl⟩
    obtain ⟨is, his⟩ : ∃ is, is = isF (kk i) m A := ⟨_, rfl⟩
    have hgi : gI A m i = if is then some ⟨kk i, r.rev, r.create, r.version⟩ else none := by unfold gI; rw [← his, ← hr]
    rw [← hr, ← his] at hkk ⊢
    rw [← his] at hat
    obtain ⟨h3, h3e⟩ : ∃ h3, h3 = (h2.newCells 68 (rcC rc0)).sts h2.nx 0 (rcC r) := ⟨_, rfl⟩
    have o3 : Only h2 h3 [] := by rw [h3e]; exact ((Only.refl _ _).new _ _).sts (.inr (Nat.le_refl _))
    have x3 : h3.nx = h2.nx + 1 := by rw [h3e, nx_sts, nx_new]
    have cs : ∀ j, j < 8 → cellAt h3 h2.nx j = (rcC r)[j]? := fun j hj => by
      rw [h3e, cellAt_sts (by rw [wrAt_new, if_pos rfl]), if_pos ⟨rfl, Nat.zero_le _, by rw [rcC_len]; omega⟩]; rfl
    have h3e' := h3e
    unfold rcC rc0 at h3e'
    unfold rcA rcC
    repeat' (first | ((with_reducible refine st1 ?_); (conv => whnf); (with_reducible refine ⟨?_⟩)) | ((with_reducible refine retW_intro rfl ?_); (conv => arg 2; whnf)) | ((with_reducible first | refine iB ?_ ?_ | refine gWt ?_ ?_ | refine gWf ?_ ?_) <;> intro hb <;> (try simp only [hb])) | (simp only [B, xB, F, reduceLT, reduceLeDiff, reduceEqDiff, reduceAdd, reduceMul, reduceSub, ↓reduceIte, eq_self, t0, t1, t2, t7, t8, t9, ← h3e']))
    clear h3e'
    have o13 := o1.t (o2.t o3)
    have oh3 := os.t (oo.t o13)
    refine ((ixGetC h3 b (kk i) R s m (hx.keep oh3) (hf.szg _)).call P).mono P ?_
    rintro v4 h4 ⟨rfl, o4⟩
    rw [hat]
    have x4 := o4.1
    have xo := oo.1
    have x13 := o13.1
    have e0 : cellAt h4 h2.nx 0 = some _ := W.kcell (cs 0 (by omega)) o4 (by omega) (by simp)
    have e1 : cellAt h4 h2.nx 1 = some _ := W.kcell (cs 1 (by omega)) o4 (by omega) (by simp)
    have e2 : cellAt h4 h2.nx 2 = some _ := W.kcell (cs 2 (by omega)) o4 (by omega) (by simp)
    have e3 : cellAt h4 h2.nx 3 = some _ := W.kcell (cs 3 (by omega)) o4 (by omega) (by simp)
    have e4 : cellAt h4 h2.nx 4 = some _ := W.kcell (cs 4 (by omega)) o4 (by omega) (by simp)
    have e5 : cellAt h4 h2.nx 5 = some _ := W.kcell (cs 5 (by omega)) o4 (by omega) (by simp)
    have e6 : cellAt h4 h2.nx 6 = some _ := W.kcell (cs 6 (by omega)) o4 (by omega) (by simp)
    have e7 : cellAt h4 h2.nx 7 = some _ := W.kcell (cs 7 (by omega)) o4 (by omega) (by simp)
    have n4 : (h2.nx = h4.nx) = False := by simp; omega
    have o14 : Only hs h4 [] := oo.t (o13.t o4)
    cases is with
    | false =>
      rw [if_neg (by simp)] at hgi
      have hit : itV (kk i) (getL (kk i) R) m = [.str [], .int .u64 (.ofNat 0), .int .u64 (.ofNat 0), .int .u64 (.ofNat 0), .int .u64 (.ofNat 0)] := by unfold itV; rw [if_neg (by rw [hat]; simp)]
      rw [hit]
      repeat' (first | ((with_reducible refine st1 ?_); (conv => whnf); (with_reducible refine ⟨?_⟩)) | ((with_reducible refine retW_intro rfl ?_); (conv => arg 2; whnf)) | ((with_reducible first | refine iB ?_ ?_ | refine gWt ?_ ?_ | refine gWf ?_ ?_) <;> intro hb <;> (try simp only [hb])) | (simp only [B, xB, F, reduceLT, reduceLeDiff, reduceEqDiff, reduceAdd, reduceMul, reduceSub, ↓reduceIte, eq_self, t0, t1, t2, t7, t8, t9, e0, e1, e2, e3, e4, e5, e6, e7, n4, w1, Bool.not_true, Bool.not_false]))
      rw [hgi, Option.toList_none, List.append_nil] at hgs
      refine ⟨8 - (i + 1), by omega, i + 1, rfl, rfl, hi, by simp only [B, xB, F, reduceLT, reduceLeDiff, reduceEqDiff, reduceAdd, reduceMul, reduceSub, ↓reduceIte, eq_self, t0], by simp only [B, xB, F, reduceLT, reduceLeDiff, reduceEqDiff, reduceAdd, reduceMul, reduceSub, ↓reduceIte, eq_self, t1], by simp only [B, xB, F, reduceLT, reduceLeDiff, reduceEqDiff, reduceAdd, reduceMul, reduceSub, ↓reduceIte, eq_self, t2], by simp only [B, xB, F, reduceLT, reduceLeDiff, reduceEqDiff, reduceAdd, reduceMul, reduceSub, ↓reduceIte, eq_self, t7], (by rw [hgs]; simp only [B, xB, F, reduceLT, reduceLeDiff, reduceEqDiff, reduceAdd, reduceMul, reduceSub, ↓reduceIte, eq_self, t8]), by simp only [B, xB, F, reduceLT, reduceLeDiff, reduceEqDiff, reduceAdd, reduceMul, reduceSub, ↓reduceIte, eq_self], (o14.new _ _).sts (.inr (by have := o14.1; omega))⟩
    | true =>
      rw [if_pos rfl] at hgi
      obtain ⟨k1, k2, k3⟩ := hkk rfl
      have hit : itV (kk i) (getL (kk i) R) m = [.str (kk i), .int .u64 (.ofNat r.rev.1), .int .u64 (.ofNat r.rev.2), .int .u64 (.ofNat r.create), .int .u64 (.ofNat r.version)] := by unfold itV; rw [if_pos hat, k1, k2, k3]
      rw [hit]
      have hget := gL_at hgi 8 hi
      have hlt := (List.getElem?_eq_some_iff.1 hget).1
      obtain ⟨bl, o, cap, rfl, hb, -⟩ := g1.slice.place (by omega)
      have d2 : decide ((gL A m 8).length ≤ (gL A m i).length) = false := decide_eq_false (by omega)
      have lt2 : ((gL A m i).length < (gL A m 8).length) = True := by simp; omega
      obtain ⟨p0, p1, p2, p3, p4⟩ := itC_at g1.slice hget
      rw [Nat.add_assoc] at p1 p2 p3 p4
      replace p0 := W.kcell p0 o14 (by omega) (by simp)
      replace p1 := W.kcell p1 o14 (by omega) (by simp)
      replace p2 := W.kcell p2 o14 (by omega) (by simp)
      replace p3 := W.kcell p3 o14 (by omega) (by simp)
      replace p4 := W.kcell p4 o14 (by omega) (by simp)
      have w4 : wrapF .i64 (Int.ofNat (gL A m i).length + Int.ofNat 1) = Int.ofNat ((gL A m i).length + 1) := i64_add (by omega)
      have nb : (bl = h4.nx) = False := by have := o14.1; simp; omega
      unfold kk at *
      have leq : listEqB [97 + i] [97 + i] = true := (listEqB_iff _ _).2 rfl
      repeat' (first | ((with_reducible refine st1 ?_); (conv => whnf); (with_reducible refine ⟨?_⟩)) | ((with_reducible refine st_dw ?_ rfl rfl ?_ ?_); exact rfl; kernel_rfl; (conv => arg 5; whnf); (conv => arg 3; whnf)) | ((with_reducible refine retW_intro rfl ?_); (conv => arg 2; whnf)) | ((with_reducible first | refine iB ?_ ?_ | refine gWt ?_ ?_ | refine gWf ?_ ?_ | refine gXt ?_ ?_ | refine gXf ?_ ?_) <;> intro hb <;> (try simp only [hb])) | ((with_reducible show drawI _ _ _ _ _ _ _ _ _); first | ((with_reducible refine kI_rd ?_ ?_); exact rfl) | ((with_reducible apply kI_rg); exact rfl; exact rfl) | ((with_reducible refine kI_cv ?_ ?_ ?_); exact rfl; kernel_rfl) | ((with_reducible apply kI_al); exact rfl; exact rfl) | ((with_reducible refine kI_ex ?_ ?_ ?_ ?_ ?_); exact rfl; kernel_rfl; exact rfl) | ((with_reducible apply kI_eg); exact rfl; kernel_rfl; exact rfl) | ((with_reducible refine kI_nl ?_ ?_))) | ((with_reducible show eOk _ _ _ _ _ _); first | (exact eok_nil) | (refine ke_rd ?_ ?_ ?_; exact rfl) | (apply ke_rg; exact rfl; exact rfl) | (refine ke_cv ?_ ?_ ?_ ?_; exact rfl; kernel_rfl) | (apply ke_al; exact rfl; exact rfl)) | ((with_reducible refine freshIs_new ?_); kernel_rfl) | (simp only [B, xB, F, reduceLT, reduceLeDiff, reduceEqDiff, reduceAdd, reduceMul, reduceSub, ↓reduceIte, eq_self, t0, t1, t2, t7, t8, t9, e0, e1, e2, e3, e4, e5, e6, e7, n4, w1, w4, hlen, d2, lt2, nb, p0, p1, p2, p3, p4, leq, Bool.not_true, Bool.not_false]))
      rw [hgi] at hgs
      have hgl : (gL A m (i + 1)).length = (gL A m i).length + 1 := by rw [hgs]; simp
      refine ⟨8 - (i + 1), by omega, i + 1, rfl, rfl, hi, by simp only [B, xB, F, reduceLT, reduceLeDiff, reduceEqDiff, reduceAdd, reduceMul, reduceSub, ↓reduceIte, eq_self, t0], by simp only [B, xB, F, reduceLT, reduceLeDiff, reduceEqDiff, reduceAdd, reduceMul, reduceSub, ↓reduceIte, eq_self, t1], by simp only [B, xB, F, reduceLT, reduceLeDiff, reduceEqDiff, reduceAdd, reduceMul, reduceSub, ↓reduceIte, eq_self, t2], by simp only [B, xB, F, reduceLT, reduceLeDiff, reduceEqDiff, reduceAdd, reduceMul, reduceSub, ↓reduceIte, eq_self, t7], (by rw [hgl]; simp only [B, xB, F, reduceLT, reduceLeDiff, reduceEqDiff, reduceAdd, reduceMul, reduceSub, ↓reduceIte, eq_self]), by simp only [B, xB, F, reduceLT, reduceLeDiff, reduceEqDiff, reduceAdd, reduceMul, reduceSub, ↓reduceIte, eq_self], (o14.new _ _).sts (.inr (by have := o14.1; omega))⟩
  ·
    have d1 : decide (i < 8) = false := decide_eq_false hi
    obtain rfl : i = 8 := by omega
    repeat' (first | ((with_reducible refine st1 ?_); (conv => whnf); (with_reducible refine ⟨?_⟩)) | ((with_reducible refine retW_intro rfl ?_); (conv => arg 2; whnf)) | ((with_reducible first | refine iB ?_ ?_ | refine gWt ?_ ?_ | refine gWf ?_ ?_) <;> intro hb <;> (try simp only [hb])) | (simp only [B, xB, F, reduceLT, reduceLeDiff, reduceEqDiff, reduceAdd, reduceMul, reduceSub, ↓reduceIte, eq_self, t0, t1, t2, t7, t8, t9, d1, hlen]))
    exact ⟨rfl, os.t oo⟩
end
end Go.Proofs.Ytlkngpckibidlaa.X

namespace Go.Proofs.Ytlkngpckibidlaa.X
open Go Go.AX
noncomputable section
set_option maxRecDepth 100000
theorem sorted_ext {α : Type} {lt : α → α → Prop} (irr : ∀ a, ¬ lt a a) (tr : ∀ a b c, lt a b → lt b c → lt a c) : ∀ {X Y : List α}, X.Pairwise lt → Y.Pairwise lt → (∀ a, a ∈ X ↔ a ∈ Y) → X = Y
  | [], [], _, _, _ => rfl
  | [], y :: Y, _, _, h => by have := (h y).2 (by simp); cases this
  | x :: X, [], _, _, h => by have := (h x).1 (by simp); cases this
  | x :: X, y :: Y, hx, hy, h => by
    have hx' := List.pairwise_cons.1 hx
    have hy' := List.pairwise_cons.1 hy
    have e : x = y := by
      have h1 := (h x).1 (by simp)
      have h2 := (h y).2 (by simp)
      rcases List.mem_cons.1 h1 with e | h1
      · exact e
      · rcases List.mem_cons.1 h2 with e | h2
        · exact e.symm
        · exact absurd (tr _ _ _ (hy'.1 x h1) (hx'.1 y h2)) (irr y)
    subst e
    refine congrArg _ (sorted_ext irr tr hx'.2 hy'.2 fun a => ⟨fun ha => ?_, fun ha => ?_⟩)
    · rcases List.mem_cons.1 ((h a).1 (List.mem_cons_of_mem _ ha)) with e | q
      · subst e; exact absurd (hx'.1 a ha) (irr a)
      · exact q
    · rcases List.mem_cons.1 ((h a).2 (List.mem_cons_of_mem _ ha)) with e | q
      · subst e; exact absurd (hy'.1 a ha) (irr a)
      · exact q
theorem at_key {R : List Pr} (hs : Srt R) {i : Nat} {p : Pr} (hp : R[i]? = some p) : atK p.key R = i := by
  have h1 : ¬ i < atK p.key R := fun q => by have := (at_iff (k := p.key) hs hp).2 q; rw [lt_irr] at this; cases this
  obtain ⟨hi, hpi⟩ := List.getElem?_eq_some_iff.1 hp
  rcases Nat.lt_trichotomy (atK p.key R) i with q | q | q
  · exfalso
    obtain ⟨y, hy⟩ : ∃ y, R[atK p.key R]? = some y := ⟨_, List.getElem?_eq_getElem (by omega)⟩
    obtain ⟨hj, hyj⟩ := List.getElem?_eq_some_iff.1 hy
    have := List.pairwise_iff_getElem.1 hs _ _ hj hi q
    rw [hyj, hpi] at this
    have := (at_iff (k := p.key) hs hy).1 this
    omega
  · exact q
  · exact absurd q h1
theorem getL_key {R : List Pr} (hs : Srt R) {p : Pr} (hp : p ∈ R) : getL p.key R = p.L := by
  obtain ⟨i, hi⟩ := List.getElem?_of_mem hp
  unfold getL
  rw [at_key hs hi, hi]
  simp
theorem getL_no {R : List Pr} {k : List Nat} (h : ∀ p, p ∈ R → p.key ≠ k) : getL k R = [] := by
  unfold getL
  split
  · rename_i p hp
    rw [if_neg (h p (List.mem_of_getElem? hp))]
  · rfl
theorem getL_memk {k : List Nat} {R : List Pr} : getL k R = [] ∨ ∃ p, p ∈ R ∧ p.key = k ∧ getL k R = p.L := by
  unfold getL
  split
  · rename_i p hp
    split
    · rename_i e; exact .inr ⟨p, List.mem_of_getElem? hp, e, rfl⟩
    · exact .inl rfl
  · exact .inl rfl
theorem key_inj {R : List Pr} (hs : Srt R) {p q : Pr} (hp : p ∈ R) (hq : q ∈ R) (h : p.key = q.key) : p = q := by
  obtain ⟨i, hi⟩ := List.getElem?_of_mem hp
  obtain ⟨j, hj⟩ := List.getElem?_of_mem hq
  have h1 := at_key hs hi
  have h2 := at_key hs hj
  rw [h] at h1
  have : i = j := by omega
  subst this
  rw [hi] at hj; cases hj; rfl
theorem isK_iff {R : List Pr} (hs : Srt R) (k : List Nat) : isK k R = true ↔ ∃ p, p ∈ R ∧ p.key = k := by
  constructor
  · intro h
    unfold isK at h
    split at h
    · rename_i p hp; exact ⟨p, List.mem_of_getElem? hp, by simpa using h⟩
    · cases h
  · rintro ⟨p, hp, rfl⟩
    obtain ⟨i, hi⟩ := List.getElem?_of_mem hp
    unfold isK
    rw [at_key hs hi, hi]
    simp
theorem mem_setI {R : List Pr} (hs : Srt R) (k : List Nat) (L : List W.Gn) (v : AV) (q : Pr) : q ∈ setI k L v R ↔ q = ⟨k, L, v⟩ ∨ q ∈ R ∧ q.key ≠ k := by
  unfold setI
  by_cases hk : isK k R = true
  · rw [if_pos hk]
    obtain ⟨p, hp, rfl⟩ := (isK_iff hs k).1 hk
    obtain ⟨i, hi⟩ := List.getElem?_of_mem hp
    rw [at_key hs hi]
    have hlt := (List.getElem?_eq_some_iff.1 hi).1
    constructor
    · intro h
      obtain ⟨j, hj⟩ := List.getElem?_of_mem h
      rw [List.getElem?_set] at hj
      split at hj
      · rename_i e
        cases hj; exact .inl rfl
      · rename_i e
        refine .inr ⟨List.mem_of_getElem? hj, fun e2 => e ?_⟩
        have h1 := at_key hs hj
        rw [e2, at_key hs hi] at h1; exact h1
    · rintro (rfl | ⟨h, hne⟩)
      · exact List.mem_set hlt _
      · obtain ⟨j, hj⟩ := List.getElem?_of_mem h
        have hij : i ≠ j := fun e => by subst e; rw [hi] at hj; cases hj; exact hne rfl
        refine List.mem_of_getElem? (i := j) ?_
        rw [List.getElem?_set, if_neg hij]; exact hj
  · rw [if_neg hk]
    have hno : ∀ p, p ∈ R → p.key ≠ k := fun p hp e => hk ((isK_iff hs k).2 ⟨p, hp, e⟩)
    rw [List.mem_append, List.mem_cons]
    constructor
    · rintro (h | h | h)
      · have := List.mem_of_mem_take h; exact .inr ⟨this, hno q this⟩
      · exact .inl h
      · have := List.mem_of_mem_drop h; exact .inr ⟨this, hno q this⟩
    · rintro (h | ⟨h, _⟩)
      · exact .inr (.inl h)
      · rw [← List.take_append_drop (atK k R) R] at h
        rcases List.mem_append.1 h with h | h
        · exact .inl h
        · exact .inr (.inr h)
theorem getL_set {R : List Pr} (hs : Srt R) (k : List Nat) (L : List W.Gn) (v : AV) (hs' : Srt (setI k L v R)) (k' : List Nat) : getL k' (setI k L v R) = if k' = k then L else getL k' R := by
  by_cases e : k' = k
  · subst e
    rw [if_pos rfl]
    exact getL_key hs' ((mem_setI hs k' L v _).2 (.inl rfl))
  · rw [if_neg e]
    by_cases h : ∃ p, p ∈ R ∧ p.key = k'
    · obtain ⟨p, hp, rfl⟩ := h
      rw [getL_key hs hp]
      exact getL_key hs' ((mem_setI hs k L v p).2 (.inr ⟨hp, e⟩))
    · have h1 : ∀ p, p ∈ R → p.key ≠ k' := fun p hp q => h ⟨p, hp, q⟩
      rw [getL_no h1]
      refine getL_no fun p hp => ?_
      rcases (mem_setI hs k L v p).1 hp with rfl | ⟨hp, _⟩
      · exact fun q => e q.symm
      · exact h1 p hp
def toCh (r : Rc) : W.Ch := ⟨r.rev, r.create, r.version, r.tomb⟩
def chK (A : List Rc) (i : Nat) : List W.Ch := (A.filter fun r => decide (r.key = kk i)).map toCh
theorem chK_snoc (A : List Rc) (r : Rc) (i : Nat) : chK (A ++ [r]) i = if r.key = kk i then chK A i ++ [toCh r] else chK A i := by
  unfold chK
  rw [List.filter_append, List.map_append]
  by_cases q : r.key = kk i
  · rw [if_pos q]; simp [q]
  · rw [if_neg q]; simp [q]
theorem lst_chK (A : List Rc) (m i : Nat) : W.lst (W.atP m) (chK A i) = (lstF (kk i) m A).map toCh := by
  unfold W.lst lstF chK
  rw [List.filter_map, List.filter_filter, List.getLast?_map]
  congr 2
  apply List.filter_congr
  intro r _
  unfold fP W.atP
  rw [Bool.and_comm]; rfl
theorem isK_chK (A : List Rc) (m i : Nat) : W.isK (chK A i) m = if isF (kk i) m A then [toCh (outF (kk i) m A)] else [] := by
  unfold W.isK
  rw [lst_chK]
  unfold isF outF
  cases lstF (kk i) m A with
  | none => rfl
  | some r =>
    show (if (toCh r).tomb then _ else _) = _
    cases q : r.tomb <;> simp [toCh, q]
structure Mdl (R : List Pr) (C : Nat → List W.Ch) : Prop where
  sr : Srt R
  keys : ∀ p, p ∈ R → ∃ k, k < 8 ∧ p.key = kk k
  ne : ∀ p, p ∈ R → p.L ≠ []
  wf : ∀ p, p ∈ R → W.WF p.L
  al : ∀ k, k < 8 → W.all (getL (kk k) R) = C k
  sz : ∀ k, k < 8 → (C k).length ≤ 800
theorem kk_inj {i j : Nat} (h : kk i = kk j) : i = j := by unfold kk at h; simp at h; omega
theorem kk_lt {i j : Nat} : listLtB (kk i) (kk j) = decide (i < j) := by
  unfold kk
  by_cases q : i < j
  · rw [(lt_cons _ _ _ _).2 (.inl (by omega))]; simp [q]
  · have : ¬ listLtB [97 + i] [97 + j] = true := by
      rw [lt_cons]; rintro (h | ⟨_, h⟩)
      · omega
      · cases h
    simp only [Bool.not_eq_true] at this
    rw [this]; simp [q]
theorem Mdl.wfg {R : List Pr} {C : Nat → List W.Ch} (hm : Mdl R C) (k : List Nat) : W.WF (getL k R) := by
  rcases getL_mem (k := k) (R := R) with h | ⟨p, hp, h⟩
  · rw [h]; exact W.wf_nil
  · rw [h]; exact hm.wf p hp
theorem Mdl.szp {R : List Pr} {C : Nat → List W.Ch} (hm : Mdl R C) {p : Pr} (hp : p ∈ R) : W.Sz 800 p.L := by
  obtain ⟨k, hk, e⟩ := hm.keys p hp
  have h1 := W.wf_sz (hm.wf p hp)
  have h2 := hm.al k hk
  rw [← e, getL_key hm.sr hp] at h2
  rw [h2] at h1
  exact h1.le (hm.sz k hk)
theorem Mdl.szg {R : List Pr} {C : Nat → List W.Ch} (hm : Mdl R C) (k : List Nat) : W.Sz 800 (getL k R) := by
  rcases getL_mem (k := k) (R := R) with h | ⟨p, hp, h⟩
  · rw [h]; exact ⟨by simp, fun g hg => by cases hg⟩
  · rw [h]; exact hm.szp hp
theorem gL_keys (A : List Rc) (m : Nat) : (gL A m 8).Pairwise fun a b => listLtB a.key b.key = true := by
  unfold gL
  rw [List.pairwise_filterMap]
  refine (List.pairwise_lt_range (n := 8)).imp fun {i j} hij x hx y hy => ?_
  unfold gI at hx hy
  split at hx
  · split at hy
    · cases hx; cases hy
      show listLtB (kk i) (kk j) = true
      rw [kk_lt]; simp [hij]
    · cases hy
  · cases hx
theorem Mdl.fits {R : List Pr} {C : Nat → List W.Ch} (hm : Mdl R C) {A : List Rc} {m : Nat} (hC : ∀ k, k < 8 → W.isK (C k) m = W.isK (chK A k) m) : Fits A m R := by
  have hat : ∀ i, i < 8 → W.atB (getL (kk i) R) m = isF (kk i) m A := fun i hi => by
    rw [W.atB_isK, hm.al i hi, hC i hi, isK_chK]
    cases isF (kk i) m A <;> rfl
  have hkk : ∀ i, i < 8 → isF (kk i) m A = true → W.atK (getL (kk i) R) m = toCh (outF (kk i) m A) := fun i hi hf => by
    rw [W.atK_isK, hm.al i hi, hC i hi, isK_chK, hf]; rfl
  refine ⟨hat, fun i hi hf => by rw [hkk i hi hf]; exact ⟨rfl, rfl, rfl⟩, ?_, fun p hp => (hm.szp hp).le (by omega), ?_⟩
  · refine sorted_ext (lt := fun a b : It => listLtB a.key b.key = true) (fun a h => by rw [lt_irr] at h; cases h) (fun a b c h1 h2 => lt_trans h1 h2) ?_ (gL_keys A m) fun x => ?_
    · unfold itsL
      rw [List.pairwise_map]
      exact (List.Pairwise.sublist List.filter_sublist hm.sr).imp fun {p q} h => h
    · unfold itsL gL
      rw [List.mem_map, List.mem_filterMap]
      constructor
      · rintro ⟨p, hp, rfl⟩
        obtain ⟨hp, hb⟩ := List.mem_filter.1 hp
        obtain ⟨k, hk, e⟩ := hm.keys p hp
        have hg := getL_key hm.sr hp
        rw [e] at hg
        have h1 := hat k hk
        rw [hg] at h1
        replace hb : W.atB p.L m = true := hb
        rw [hb] at h1
        have h2 := hkk k hk h1.symm
        rw [hg] at h2
        refine ⟨k, List.mem_range.2 hk, ?_⟩
        unfold gI itOf
        rw [← h1, if_pos rfl, h2, e]; rfl
      · rintro ⟨k, hk, hx⟩
        have hk := List.mem_range.1 hk
        unfold gI at hx
        split at hx
        · rename_i hf
          cases hx
          have h1 := hat k hk
          have h2 := hkk k hk hf
          rcases getL_memk (k := kk k) (R := R) with h | ⟨p, hp, hkey, h⟩
          · rw [h, hf] at h1; cases h1
          · refine ⟨p, List.mem_filter.2 ⟨hp, (by show W.atB p.L m = true; rw [← h, h1, hf])⟩, ?_⟩
            unfold itOf
            rw [← h, h2, hkey]; rfl
        · cases hx
  · cases R with
    | nil => rfl
    | cons p R =>
      obtain ⟨k, hk, e⟩ := hm.keys p (by simp)
      have : listLtB p.key [97] = false := by
        rw [e]; have := @kk_lt k 0; unfold kk at this ⊢; simpa using this
      unfold atK; rw [this]; rfl
theorem Mdl.nil : Mdl [] (fun _ => []) := ⟨List.Pairwise.nil, fun p hp => (by cases hp), fun p hp => (by cases hp), fun p hp => (by cases hp), fun k _ => rfl, fun _ _ => Nat.zero_le _⟩
theorem Mdl.set {R : List Pr} {C : Nat → List W.Ch} (hm : Mdl R C) {k : Nat} (hk : k < 8) {L : List W.Gn} {D : List W.Ch} (v : AV) (hw : W.WF L) (hn : L ≠ []) (ha : W.all L = D) (hz : D.length ≤ 800) (hs : Srt (setI (kk k) L v R)) :
    Mdl (setI (kk k) L v R) (fun i => if i = k then D else C i) := by
  have mm := mem_setI hm.sr (kk k) L v
  refine ⟨hs, fun p hp => ?_, fun p hp => ?_, fun p hp => ?_, fun i hi => ?_, fun i hi => ?_⟩
  · rcases (mm p).1 hp with rfl | ⟨hp, _⟩
    · exact ⟨k, hk, rfl⟩
    · exact hm.keys p hp
  · rcases (mm p).1 hp with rfl | ⟨hp, _⟩
    · exact hn
    · exact hm.ne p hp
  · rcases (mm p).1 hp with rfl | ⟨hp, _⟩
    · exact hw
    · exact hm.wf p hp
  · rw [getL_set hm.sr _ _ _ hs]
    by_cases e : i = k
    · subst e; rw [if_pos rfl, if_pos rfl]; exact ha
    · rw [if_neg (fun q => e (kk_inj q)), if_neg e]; exact hm.al i hi
  · by_cases e : i = k
    · rw [if_pos e]; exact hz
    · rw [if_neg e]; exact hm.sz i hi
theorem Mdl.comp {R : List Pr} {C : Nat → List W.Ch} (hm : Mdl R C) (hr : ∀ k, k < 8 → W.Rising (C k)) {m : Nat} {R' : List Pr} (hk : R'.map kl = compR m R) (hs : Srt R') : Mdl R' (fun k => W.compA (C k) m) := by
  have mem : ∀ p', p' ∈ R' → ∃ p, p ∈ R ∧ p'.key = p.key ∧ p'.L = W.compL p.L m ∧ W.compL p.L m ≠ [] := fun p' hp' => by
    have : kl p' ∈ compR m R := by rw [← hk]; exact List.mem_map.2 ⟨p', hp', rfl⟩
    unfold compR at this
    obtain ⟨p, hp, e⟩ := List.mem_filterMap.1 this
    split at e
    · cases e
    · rename_i h
      unfold kl at e
      simp only [Option.some.injEq, Prod.mk.injEq] at e
      exact ⟨p, hp, e.1.symm, e.2.symm, fun q => h (by rw [q]; rfl)⟩
  have mem2 : ∀ p, p ∈ R → W.compL p.L m ≠ [] → ∃ p', p' ∈ R' ∧ p'.key = p.key ∧ p'.L = W.compL p.L m := fun p hp hne => by
    have : (p.key, W.compL p.L m) ∈ R'.map kl := by
      rw [hk]; unfold compR
      refine List.mem_filterMap.2 ⟨p, hp, ?_⟩
      rw [if_neg (by simpa using hne)]
    obtain ⟨p', hp', e⟩ := List.mem_map.1 this
    unfold kl at e
    simp only [Prod.mk.injEq] at e
    exact ⟨p', hp', e.1, e.2⟩
  refine ⟨hs, fun p' hp' => ?_, fun p' hp' => ?_, fun p' hp' => ?_, fun i hi => ?_, fun i hi => ?_⟩
  · obtain ⟨p, hp, e, _⟩ := mem p' hp'
    obtain ⟨k, hk, e2⟩ := hm.keys p hp
    exact ⟨k, hk, e.trans e2⟩
  · obtain ⟨p, hp, _, e, hne⟩ := mem p' hp'
    rw [e]; exact hne
  · obtain ⟨p, hp, _, e, _⟩ := mem p' hp'
    rw [e]; exact W.wf_comp (hm.wf p hp) m
  · have hg : getL (kk i) R' = W.compL (getL (kk i) R) m := by
      rcases getL_memk (k := kk i) (R := R) with h | ⟨p, hp, hkey, h⟩
      · rw [h]
        show _ = []
        rcases getL_memk (k := kk i) (R := R') with h' | ⟨p', hp', hkey', _⟩
        · exact h'
        · exfalso
          obtain ⟨p, hp, e, _⟩ := mem p' hp'
          have := getL_key hm.sr hp
          rw [← e, hkey', h] at this
          exact hm.ne p hp this.symm
      · rw [h]
        by_cases q : W.compL p.L m = []
        · rw [q]
          rcases getL_memk (k := kk i) (R := R') with h' | ⟨p', hp', hkey', _⟩
          · exact h'
          · exfalso
            obtain ⟨p2, hp2, e, _, hne⟩ := mem p' hp'
            have := key_inj hm.sr hp2 hp (by rw [← e, hkey', hkey])
            subst this
            exact hne q
        · obtain ⟨p', hp', e1, e2⟩ := mem2 p hp q
          rw [← e2, ← getL_key hs hp', e1, hkey]
    rw [hg]
    have hrr := hr i hi
    rw [← hm.al i hi] at hrr ⊢
    exact W.all_compL m hrr
  · exact Nat.le_trans (W.comp_len (hr i hi) m) (hm.sz i hi)
theorem Mdl.len {R : List Pr} {C : Nat → List W.Ch} (hm : Mdl R C) : R.length = ((List.range 8).filter fun k => !(C k).isEmpty).length := by
  have h : R.map (·.key) = ((List.range 8).filter fun k => !(C k).isEmpty).map kk := by
    refine sorted_ext (lt := fun a b : List Nat => listLtB a b = true) (fun a h => by rw [lt_irr] at h; cases h) (fun a b c h1 h2 => lt_trans h1 h2) ?_ ?_ fun x => ?_
    · rw [List.pairwise_map]; exact hm.sr
    · rw [List.pairwise_map]
      exact ((List.pairwise_lt_range (n := 8)).sublist List.filter_sublist).imp fun {i j} hij => by rw [kk_lt]; simp [hij]
    · rw [List.mem_map, List.mem_map]
      constructor
      · rintro ⟨p, hp, rfl⟩
        obtain ⟨k, hk, e⟩ := hm.keys p hp
        refine ⟨k, List.mem_filter.2 ⟨List.mem_range.2 hk, ?_⟩, e.symm⟩
        have := getL_key hm.sr hp
        rw [← hm.al k hk, ← W.empty_all (hm.wfg _), ← e, this]
        have := hm.ne p hp
        cases h : p.L with
        | nil => exact absurd h this
        | cons _ _ => rfl
      · rintro ⟨k, hk, rfl⟩
        obtain ⟨hk, hb⟩ := List.mem_filter.1 hk
        have hk := List.mem_range.1 hk
        rw [← hm.al k hk, ← W.empty_all (hm.wfg _)] at hb
        rcases getL_memk (k := kk k) (R := R) with h | ⟨p, hp, hkey, _⟩
        · rw [h] at hb; cases hb
        · exact ⟨p, hp, hkey⟩
  have := congrArg List.length h
  simpa using this
def lastK (A : List Rc) (k : Nat) : Option W.Ch := (chK A k).getLast?
def nthK (A : List Rc) (k : Nat) : Nat := match lastK A k with | some c => if c.tomb then 0 else c.nth | none => 0
def madeK (A : List Rc) (k : Nat) : Nat := match lastK A k with | some c => c.made | none => 0
def tombB (A : List Rc) (x : Nat) : Bool := decide (x / 8 % 3 = 0) && decide (0 < nthK A (x % 8))
def recOf (A : List Rc) (i x : Nat) : Rc :=
  if tombB A x then ⟨(i / 2 + 2, i % 2), kk (x % 8), [], 0, 0, 0, true⟩
  else ⟨(i / 2 + 2, i % 2), kk (x % 8), [], if nthK A (x % 8) = 0 then i / 2 + 2 else madeK A (x % 8), i / 2 + 2, nthK A (x % 8) + 1, false⟩
def skipB (l : List Nat) (i x : Nat) : Bool := decide (i % 2 = 1) && (match l[i - 1]? with | some y => decide (y % 8 = x % 8) | none => false)
def growA (l : List Nat) : Nat → List Rc
  | 0 => []
  | i + 1 => match l[i]? with
    | some x => if skipB l i x then growA l i else growA l i ++ [recOf (growA l i) i x]
    | none => growA l i
structure GrI (l : List Nat) (i : Nat) (A : List Rc) : Prop where
  good : ∀ k, k < 8 → W.Good (chK A k)
  key : ∀ r, r ∈ A → ∃ k, k < 8 ∧ r.key = kk k
  main : ∀ r, r ∈ A → r.rev.1 < i / 2 + 2 ∨ i % 2 = 1 ∧ r.rev.1 = i / 2 + 2 ∧ ∃ y, l[i - 1]? = some y ∧ r.key = kk (y % 8)
  nth : ∀ k, k < 8 → W.NthLe i (chK A k)
  len : A.length ≤ i
theorem chK_mem {A : List Rc} {k : Nat} {c : W.Ch} (hc : c ∈ chK A k) : ∃ r, r ∈ A ∧ r.key = kk k ∧ c = toCh r := by
  unfold chK at hc
  obtain ⟨r, hr, e⟩ := List.mem_map.1 hc
  obtain ⟨hr, hk⟩ := List.mem_filter.1 hr
  exact ⟨r, hr, by simpa using hk, e.symm⟩
theorem chK_len (A : List Rc) (k : Nat) : (chK A k).length ≤ A.length := by
  unfold chK; rw [List.length_map]; exact List.length_filter_le _ _
theorem GrI.nil (l : List Nat) : GrI l 0 [] := ⟨fun _ _ => W.Good.nil, fun r hr => (by cases hr), fun r hr => (by cases hr), fun k _ c hc => (by cases hc), Nat.le_refl _⟩
theorem GrI.skip {l : List Nat} {i : Nat} {A : List Rc} (h : GrI l i A) (hi : i % 2 = 1) : GrI l (i + 1) A :=
  ⟨h.good, h.key, fun r hr => by rcases h.main r hr with q | ⟨_, q, _⟩ <;> exact .inl (by omega), fun k hk c hc => Nat.le_succ_of_le (h.nth k hk c hc), Nat.le_succ_of_le h.len⟩
theorem GrI.fresh {l : List Nat} {i x : Nat} {A : List Rc} (h : GrI l i A) (hs : skipB l i x = false) : ∀ c, c ∈ chK A (x % 8) → c.rev.1 < i / 2 + 2 := fun c hc => by
  obtain ⟨r, hr, hk, rfl⟩ := chK_mem hc
  rcases h.main r hr with q | ⟨q1, q2, y, hy, q3⟩
  · exact q
  · exfalso
    unfold skipB at hs
    rw [hy, decide_eq_true q1] at hs
    have := kk_inj (hk.symm.trans q3)
    simp [this] at hs
theorem GrI.step {l : List Nat} {i x : Nat} {A : List Rc} (h : GrI l i A) (hx : l[i]? = some x) (hs : skipB l i x = false) (hi : i < 1000) :
    GrI l (i + 1) (A ++ [recOf A i x]) ∧ chK (A ++ [recOf A i x]) (x % 8) = chK A (x % 8) ++ [toCh (recOf A i x)] ∧ (∀ k, k ≠ x % 8 → chK (A ++ [recOf A i x]) k = chK A k) ∧
    (tombB A x = true → W.opnA (chK A (x % 8)) = true) ∧ (tombB A x = false → W.nextA (chK A (x % 8)) (i / 2 + 2, i % 2) (i / 2 + 2) 1 = toCh (recOf A i x)) ∧ W.fitA (chK A (x % 8)) (i / 2 + 2, i % 2) = true := by
  have hx8 : x % 8 < 8 := Nat.mod_lt _ (by omega)
  have hfr := h.fresh hs
  have hM : W.M64 = 18446744073709551616 := rfl
  have hgd := h.good _ hx8
  have hnl := h.nth _ hx8
  obtain ⟨r, hr⟩ : ∃ r, r = recOf A i x := ⟨_, rfl⟩
  have hkey : r.key = kk (x % 8) := by rw [hr]; unfold recOf; split <;> rfl
  have hrev : r.rev = (i / 2 + 2, i % 2) := by rw [hr]; unfold recOf; split <;> rfl
  have e1 : chK (A ++ [r]) (x % 8) = chK A (x % 8) ++ [toCh r] := by rw [chK_snoc, if_pos hkey]
  have e2 : ∀ k, k ≠ x % 8 → chK (A ++ [r]) k = chK A k := fun k hk => by rw [chK_snoc, if_neg (fun e => hk (kk_inj (hkey.symm.trans e)).symm)]
  have hfit : W.fitA (chK A (x % 8)) (i / 2 + 2, i % 2) = true := W.fit_gt (by show 0 < i / 2 + 2; omega) hfr
  rw [← hr]
  have hlast : ∀ a, (chK A (x % 8)).getLast? = some a → a ∈ chK A (x % 8) := fun a ha => List.mem_of_getLast? ha
  have hcase : tombB A x = true ∧ toCh r = ⟨(i / 2 + 2, i % 2), 0, 0, true⟩ ∧ (∃ a, (chK A (x % 8)).getLast? = some a ∧ a.tomb = false) ∨
      tombB A x = false ∧ (((chK A (x % 8)).getLast? = none ∨ ∃ a, (chK A (x % 8)).getLast? = some a ∧ a.tomb = true) ∧ toCh r = ⟨(i / 2 + 2, i % 2), i / 2 + 2, 1, false⟩ ∨
        ∃ a, (chK A (x % 8)).getLast? = some a ∧ a.tomb = false ∧ toCh r = ⟨(i / 2 + 2, i % 2), a.made, a.nth + 1, false⟩) := by
    cases ht : tombB A x with
    | true =>
      refine .inl ⟨rfl, by rw [hr]; unfold recOf; rw [ht]; rfl, ?_⟩
      have h0 : 0 < nthK A (x % 8) := by unfold tombB at ht; simp at ht; exact ht.2
      unfold nthK lastK at h0
      split at h0
      · rename_i a ha
        cases hat : a.tomb with
        | true => rw [hat] at h0; simp at h0
        | false => exact ⟨a, ha, hat⟩
      · omega
    | false =>
      refine .inr ⟨rfl, ?_⟩
      rw [hr]; unfold recOf; rw [ht]
      unfold nthK madeK lastK
      cases ha : (chK A (x % 8)).getLast? with
      | none => exact .inl ⟨.inl rfl, rfl⟩
      | some a =>
        cases hat : a.tomb with
        | true => exact .inl ⟨.inr ⟨a, rfl, hat⟩, by simp [hat, toCh]⟩
        | false =>
          have := (hgd.ok a (hlast a ha)).nt hat
          refine .inr ⟨a, rfl, hat, ?_⟩
          have h0 : ¬ a.nth = 0 := by omega
          simp [hat, toCh, h0]
  generalize toCh r = c at hcase e1
  have hcr : c.rev = (i / 2 + 2, i % 2) := by rcases hcase with ⟨_, e, _⟩ | ⟨_, ⟨_, e⟩ | ⟨_, _, _, e⟩⟩ <;> rw [e]
  have hGood : W.Good (chK A (x % 8) ++ [c]) := by
    refine hgd.snoc (fun h0 => ?_) ⟨by rw [hcr]; show 0 < i / 2 + 2; omega, fun ht => ?_, fun ht => ?_⟩ fun a ha => ⟨fun hb => ?_, fun hb hat => ?_, fun hb hat => ?_, by rw [hcr]; exact hfr a (hlast a ha)⟩
    · rcases hcase with ⟨_, _, a, ha, _⟩ | ⟨_, ⟨_, e⟩ | ⟨_, _, _, e⟩⟩
      · rw [h0] at ha; cases ha
      · rw [e]
      · rw [e]
    · rcases hcase with ⟨_, e, _⟩ | ⟨_, ⟨_, e⟩ | ⟨_, _, _, e⟩⟩
      · rw [e]; exact ⟨rfl, rfl⟩
      · rw [e] at ht; cases ht
      · rw [e] at ht; cases ht
    · rcases hcase with ⟨_, e, _⟩ | ⟨_, ⟨_, e⟩ | ⟨a, ha, hat, e⟩⟩
      · rw [e] at ht; cases ht
      · rw [e]; refine ⟨?_, ?_, ?_, ?_⟩ <;> simp <;> omega
      · have h1 := (hgd.ok a (hlast a ha)).nt hat
        have h2 := hfr a (hlast a ha)
        have h3 := hnl a (hlast a ha)
        rw [e]; refine ⟨?_, ?_, ?_, ?_⟩ <;> simp <;> omega
    · rcases hcase with ⟨_, _, a', ha', hat⟩ | ⟨_, ⟨_, e⟩ | ⟨_, _, _, e⟩⟩
      · rw [ha] at ha'; cases ha'; exact hat
      · rw [e] at hb; cases hb
      · rw [e] at hb; cases hb
    · rcases hcase with ⟨_, e, _⟩ | ⟨_, ⟨_, e⟩ | ⟨a', ha', hat', e⟩⟩
      · rw [e] at hb; cases hb
      · rw [e]; exact hfr a (hlast a ha)
      · rw [ha] at ha'; cases ha'; rw [hat] at hat'; cases hat'
    · rcases hcase with ⟨_, e, _⟩ | ⟨_, ⟨h0, e⟩ | ⟨a', ha', hat', e⟩⟩
      · rw [e] at hb; cases hb
      · rcases h0 with h0 | ⟨a', ha', hat'⟩
        · rw [ha] at h0; cases h0
        · rw [ha] at ha'; cases ha'; rw [hat] at hat'; cases hat'
      · rw [ha] at ha'; cases ha'
        have h3 := hnl a (hlast a ha)
        rw [e]; refine ⟨rfl, ?_⟩
        rw [Nat.mod_eq_of_lt (a := a.nth + 1) (b := W.M64) (by rw [hM]; omega)]
  refine ⟨⟨fun k hk => ?_, fun q hq => ?_, fun q hq => ?_, fun k hk => ?_, ?_⟩, e1, e2, fun ht => ?_, fun ht => ?_, hfit⟩
  · by_cases e : k = x % 8
    · subst e; rw [e1]; exact hGood
    · rw [e2 k e]; exact h.good k hk
  · rcases List.mem_append.1 hq with hq | hq
    · exact h.key q hq
    · rw [List.mem_singleton.1 hq]; exact ⟨_, hx8, hkey⟩
  · rcases List.mem_append.1 hq with hq | hq
    · have hmq := h.main q hq
      by_cases hpar : i % 2 = 1
      · rcases hmq with q1 | ⟨_, q1, _⟩ <;> exact .inl (by omega)
      · rcases hmq with q1 | ⟨q1, _, _⟩
        · exact .inl (by omega)
        · omega
    · rw [List.mem_singleton.1 hq, hrev]
      by_cases hpar : i % 2 = 1
      · exact .inl (by show i / 2 + 2 < _; omega)
      · exact .inr ⟨by omega, (by show i / 2 + 2 = _; omega), x, hx, hkey⟩
  · by_cases e : k = x % 8
    · subst e; rw [e1]
      intro d hd
      rcases List.mem_append.1 hd with hd | hd
      · exact Nat.le_succ_of_le (hnl d hd)
      · rw [List.mem_singleton.1 hd]
        rcases hcase with ⟨_, e, _⟩ | ⟨_, ⟨_, e⟩ | ⟨a, ha, _, e⟩⟩
        · rw [e]; exact Nat.zero_le _
        · rw [e]; show 1 ≤ i + 1; omega
        · rw [e]; exact Nat.succ_le_succ (hnl a (hlast a ha))
    · rw [e2 k e]; exact fun d hd => Nat.le_succ_of_le (h.nth k hk d hd)
  · rw [List.length_append]; have := h.len; simp; omega
  · rcases hcase with ⟨_, _, a, ha, hat⟩ | ⟨ht', _⟩
    · unfold W.opnA; rw [ha]; simp [hat]
    · rw [ht] at ht'; cases ht'
  · rcases hcase with ⟨ht', _⟩ | ⟨_, ⟨h0, e⟩ | ⟨a, ha, hat, e⟩⟩
    · rw [ht] at ht'; cases ht'
    · rw [e]; unfold W.nextA
      rcases h0 with h0 | ⟨a, ha, hat⟩
      · rw [h0]; rfl
      · rw [ha]; simp [hat]; rfl
    · have h3 := hnl a (hlast a ha)
      rw [e]; unfold W.nextA
      rw [ha]
      show (if a.tomb then _ else _) = _
      rw [hat, if_neg (by simp), Nat.mod_eq_of_lt (a := a.nth + 1) (b := W.M64) (by rw [hM]; omega)]
end
end Go.Proofs.Ytlkngpckibidlaa.X

namespace Go.Proofs.Ytlkngpckibidlaa.W
open Go Go.AX
noncomputable section
set_option maxRecDepth 100000
def u8s (l : List Nat) : List AV := l.map fun n => .int .u8 (.ofNat n)
end
end Go.Proofs.Ytlkngpckibidlaa.W

namespace Go.Proofs.Ytlkngpckibidlaa.X
open Go Go.AX
noncomputable section
set_option maxRecDepth 100000
def arr8 (h : H) (b : Nat) (f : Nat → Nat) : Prop := ∀ k, k < 8 → cellAt h b k = some (.int .u64 (.ofNat (f k)))
theorem IxR.off {N N' : Nat → Prop} {h h' : H} {b : Nat} {R : List Pr} {s : AV} {S : List Nat} (hx : IxR N h b R s) (ho : Only h h' S) (hS : ∀ c, c ∈ S → c ≠ b ∧ blkOf s ≠ some c ∧ (c < h.nx → ¬ N c)) (hN : ∀ c, c < h.nx → N c → N' c) (hf : ∀ c, h'.nx ≤ c → N' c) : IxR N' h' b R s := by
  have hb : b ∉ S := fun q => (hS b q).1 rfl
  have hs : ∀ c, blkOf s = some c → c ∉ S := fun c e q => (hS c q).2.1 e
  exact ⟨⟨⟨Nat.lt_of_lt_of_le hx.ix.lt ho.1, W.kcell hx.ix.c0 ho hx.ix.lt hb, hx.ix.sl.only ho hs,
    fun p hp => (((hx.ix.gg p hp).mono (q := fun c => offI N b s c ∧ c < h.nx) fun c hc e => ⟨e, hc⟩).keep ho (fun c q e => (hS c q).2.2 e.2 e.1.fl)).mono fun c _ e => ⟨e.1.nb, e.1.ns, hN c e.2 e.1.fl⟩, hx.ix.sr, hx.ix.zz, hf⟩,
    hx.rw.keep ho.1 (fun c q => ho.2 c (hx.ix.sl.blk c q) (hs c q)), W.kwr hx.wr ho hx.ix.lt hb, hx.ne⟩, hx.ex⟩
theorem IxR.floor {N N' : Nat → Prop} {h : H} {b : Nat} {s : AV} (hx : IxR N h b [] s) (hN : ∀ c, h.nx ≤ c → N' c) : IxR N' h b [] s :=
  ⟨⟨⟨hx.ix.lt, hx.ix.c0, hx.ix.sl, (fun p hp => by cases hp), hx.ix.sr, hx.ix.zz, hN⟩, hx.rw, hx.wr, hx.ne⟩, hx.ex⟩
def Fl (n : Nat) (w : AV) (c : Nat) : Prop := n ≤ c ∧ blkOf w ≠ some c
theorem row_ne {h : H} {s w : AV} {n n' base : Nat} {cs cs' : List AV} (hr : RowV h s n cs) (hg : Grows 8 base h w n' cs') {c : Nat} (h1 : blkOf s = some c) (h2 : blkOf w = some c) : False := by
  cases hg with
  | none => cases h2
  | cell b n' cs' t ty q1 q2 q3 q4 q5 =>
    cases h2
    cases hr with
    | nil => cases h1
    | opn b n m ty' cs p0 p1 p2 p3 =>
      cases h1
      obtain ⟨_, t', e, _⟩ := p3
      rw [q4] at e; simp at e
    | exa b n c ty' cs p0 p1 p2 p3 =>
      cases h1
      obtain ⟨_, t', e, _⟩ := p3
      rw [q4] at e; simp at e
theorem Mdl.congr {R : List Pr} {C D : Nat → List W.Ch} (hm : Mdl R C) (h : ∀ j, j < 8 → C j = D j) : Mdl R D :=
  ⟨hm.sr, hm.keys, hm.ne, hm.wf, fun k hk => (hm.al k hk).trans (h k hk), fun k hk => by rw [← h k hk]; exact hm.sz k hk⟩
theorem u104a : P.underlying 104 = some (.array 8 28) := by kernel_rfl
theorem ok28a : okT P 28 = true := by kernel_rfl
theorem co28 : P.cellsOf 28 = 1 := by kernel_rfl
theorem ia104 (b : Nat) (kd : IntKind) (i : Nat) (hi : i < 8) : indexAddrA P 104 (.ptr b 0) (.int kd (.ofNat i)) = some (.ptr b i) := by
  have hb : Nat.blt i 8 = true := by rw [Nat.blt_eq]; exact hi
  unfold indexAddrA
  simp only [u104a, hb, ok28a, co28, Bool.true_and, Nat.zero_add, Nat.mul_one]
theorem growA_succ {l : List Nat} {i x : Nat} (hx : l[i]? = some x) : growA l (i + 1) = if skipB l i x then growA l i else growA l i ++ [recOf (growA l i) i x] := by
  show (match l[i]? with | some x => _ | none => _) = _
  rw [hx]
structure GwS (h0 hs : H) (l : List Nat) (b b6 : Nat) (h : H) (i : Nat) (R : List Pr) (s w : AV) (mk : Nat → Nat) : Prop where
  oo : Only h0 h []
  xx : hs.nx ≤ h.nx
  ix : IxR (Fl hs.nx w) h b R s
  bs : ∀ c, blkOf s = some c → hs.nx ≤ c
  gr : Grows 8 hs.nx h w (growA l i).length (hsC (growA l i))
  md : Mdl R (chK (growA l i))
  gi : GrI l i (growA l i)
  m6 : ∀ k, k < 8 → 0 < nthK (growA l i) k → mk k = madeK (growA l i) k
  c6 : arr8 h b6 mk
  c7 : arr8 h (b6 + 1) (nthK (growA l i))
  w6 : wrAt h b6 = true
  w7 : wrAt h (b6 + 1) = true
def Stop (p : Prop) : Prop := p
theorem stop26 {ds : List Nat} {tm : T AV} {h : H} {Q : KQ} (hw : Stop (codeW P 26 123 none (codeI (bodyC Try.f26) [1, 1, 0, 0, 1, 0, 0, 1, 0, 1, 1, 1, 1, 1]) ds tm h Q)) : codeW P 26 123 none (codeI (bodyC Try.f26) [1, 1, 0, 0, 1, 0, 0, 1, 0, 1, 1, 1, 1, 1]) ds tm h Q := hw
structure GwI (h0 hs : H) (vl : AV) (l : List Nat) (b b6 : Nat) (n : Nat) (ds : List Nat) (tm : T AV) (h : H) (i : Nat) (R : List Pr) (s w : AV) (mk : Nat → Nat) : Prop where
  ds : ds = []
  nn : n = 60 - i
  ii : i ≤ 60 ∧ i ≤ l.length
  t0 : tm.get 0 = some vl
  t4 : tm.get 4 = some (.ptr b 0)
  t5 : tm.get 5 = some w
  t6 : tm.get 6 = some (.ptr b6 0)
  t7 : tm.get 7 = some (.ptr (b6 + 1) 0)
  t8 : tm.get 8 = some (.int .i64 (.ofNat i))
  st : GwS h0 hs l b b6 h i R s w mk
def PostGrown (h : H) (l : List Nat) (v : AV) (h' : H) : Prop :=
  ∃ b w R s bs, v = .tuple [.ptr b 0, w] ∧ Only h h' [] ∧ h.nx ≤ b ∧ b < bs ∧ IxR (Fl bs w) h' b R s ∧ (∀ c, blkOf s = some c → bs ≤ c) ∧ Grows 8 bs h' w (growA l (min 60 l.length)).length (hsC (growA l (min 60 l.length))) ∧ Mdl R (chK (growA l (min 60 l.length))) ∧ GrI l (min 60 l.length) (growA l (min 60 l.length))
theorem stopT {ds : List Nat} {tm : T AV} {h : H} {Q : KQ} (hw : Stop (codeW P 26 123 none (codeI (bodyC Try.f26) [1, 1, 1, 1, 0, 0, 1, 0, 0, 1, 0, 1, 1, 1, 1, 1]) ds tm h Q)) : codeW P 26 123 none (codeI (bodyC Try.f26) [1, 1, 1, 1, 0, 0, 1, 0, 0, 1, 0, 1, 1, 1, 1, 1]) ds tm h Q := hw
theorem hsC_snoc (A : List Rc) (r : Rc) : hsC A ++ rcC r = hsC (A ++ [r]) := by simp [hsC]
theorem grownTail (h : H) (base c : Nat) (w : AV) (A : List Rc) (r : Rc) (tm : T AV) (hb : base ≤ h.nx) (hc : c < h.nx) (cs : ∀ j, j < 8 → cellAt h c j = (rcC r)[j]?) (gr : Grows 8 base h w A.length (hsC A)) (hz : A.length ≤ 1000) (t5 : tm.get 5 = some w) (t10 : tm.get 10 = some (.ptr c 0))
    (K : KQ) (hK : ∀ tm2 h2 w2, tm2.get 0 = tm.get 0 → tm2.get 4 = tm.get 4 → tm2.get 6 = tm.get 6 → tm2.get 7 = tm.get 7 → tm2.get 8 = tm.get 8 → tm2.get 5 = some w2 → h.nx ≤ h2.nx → (∀ b, b < h.nx → blkOf w ≠ some b → h2.t.get b = h.t.get b) → (∀ c, blkOf w2 = some c → h.nx ≤ c ∧ c < h2.nx) → Grows 8 base h2 w2 (A ++ [r]).length (hsC (A ++ [r])) → K .norm [] tm2 h2) :
    codeW P 26 123 none (codeI (bodyC Try.f26) [1, 1, 1, 1, 0, 0, 1, 0, 0, 1, 0, 1, 1, 1, 1, 1]) [] tm h K := by
  have go1 := gr.one
  have e0 : cellAt h c 0 = some _ := cs 0 (by omega)
  have e1 : cellAt h c 1 = some _ := cs 1 (by omega)
  have e2 : cellAt h c 2 = some _ := cs 2 (by omega)
  have e3 : cellAt h c 3 = some _ := cs 3 (by omega)
  have e4 : cellAt h c 4 = some _ := cs 4 (by omega)
  have e5 : cellAt h c 5 = some _ := cs 5 (by omega)
  have e6 : cellAt h c 6 = some _ := cs 6 (by omega)
  have e7 : cellAt h c 7 = some _ := cs 7 (by omega)
  obtain ⟨h1, h1e⟩ : ∃ h1, h1 = h.newCells 68 (rcC r) := ⟨_, rfl⟩
  have o1 : Only h h1 [] := by rw [h1e]; exact (Only.refl _ _).new _ _
  have x1 : h1.nx = h.nx + 1 := by rw [h1e]; rfl
  have cs1 : ∀ j, j < 8 → cellAt h1 h.nx j = (rcC r)[j]? := fun j hj => by rw [h1e, cellAt_new, if_pos rfl]
  have hrow : h1.row h.nx 0 8 = some (rcC r) := row_ok (o := 0) (cs := rcC r) (fun j hj => by rw [Nat.zero_add]; exact cs1 j hj) (by unfold rcC; simp)
  have h1e' := h1e
  unfold rcC at h1e'
  have gr1 : Grows 8 base h1 w _ _ := gr.of_get o1.1 (fun b hb => o1.2 b (gr.base hb).2 (by simp))
  repeat' (first | ((with_reducible refine st1 ?_); (conv => whnf); (with_reducible refine ⟨?_⟩)) | ((with_reducible refine retW_intro rfl ?_); (conv => arg 2; whnf)) | ((with_reducible first | refine iB ?_ ?_ | refine gWt ?_ ?_ | refine gWf ?_ ?_) <;> intro hb <;> (try simp only [hb])) | (simp only [B, xB, F, reduceLT, reduceLeDiff, reduceEqDiff, reduceAdd, reduceMul, reduceSub, ↓reduceIte, eq_self, t5, t10, e0, e1, e2, e3, e4, e5, e6, e7, ← h1e', hrow]))
  refine exW_grows (m := 1) (new := rcC r) gr1 (by omega) (by omega) (by omega) rfl (by omega) (fun v' h3 gr3 x3 old3 blk3 => ?_)
  rw [hsC_snoc] at gr3
  have go3 := gr3.one
  repeat' (first | ((with_reducible refine st1 ?_); (conv => whnf); (with_reducible refine ⟨?_⟩)) | ((with_reducible refine retW_intro rfl ?_); (conv => arg 2; whnf)) | ((with_reducible first | refine iB ?_ ?_ | refine gWt ?_ ?_ | refine gWf ?_ ?_) <;> intro hb <;> (try simp only [hb])) | (simp only [B, xB, F, reduceLT, reduceLeDiff, reduceEqDiff, reduceAdd, reduceMul, reduceSub, ↓reduceIte, eq_self, go3]))
  refine hK _ _ v' (by simp only [B, xB, F, reduceLT, reduceLeDiff, reduceEqDiff, reduceAdd, reduceMul, reduceSub, ↓reduceIte, eq_self]) (by simp only [B, xB, F, reduceLT, reduceLeDiff, reduceEqDiff, reduceAdd, reduceMul, reduceSub, ↓reduceIte, eq_self]) (by simp only [B, xB, F, reduceLT, reduceLeDiff, reduceEqDiff, reduceAdd, reduceMul, reduceSub, ↓reduceIte, eq_self]) (by simp only [B, xB, F, reduceLT, reduceLeDiff, reduceEqDiff, reduceAdd, reduceMul, reduceSub, ↓reduceIte, eq_self]) (by simp only [B, xB, F, reduceLT, reduceLeDiff, reduceEqDiff, reduceAdd, reduceMul, reduceSub, ↓reduceIte, eq_self]) (by simp only [B, xB, F, reduceLT, reduceLeDiff, reduceEqDiff, reduceAdd, reduceMul, reduceSub, ↓reduceIte, eq_self]) (by omega) (fun b hb hn => ?_) (fun c e => by rw [blk3] at e; cases e; omega) (by rw [List.length_append]; exact gr3)
  rw [old3 b (by omega) hn, o1.2 b hb (by simp)]
theorem stopP {ds : List Nat} {tm : T AV} {h : H} {Q : KQ} (hw : Stop (codeW P 26 123 none (codeI (bodyC Try.f26) [1, 1, 0, 1, 1, 1, 0, 0, 1, 0, 0, 1, 0, 1, 1, 1, 1, 1]) ds tm h Q)) : codeW P 26 123 none (codeI (bodyC Try.f26) [1, 1, 0, 1, 1, 1, 0, 0, 1, 0, 0, 1, 0, 1, 1, 1, 1, 1]) ds tm h Q := hw
theorem stopP2 {ds : List Nat} {tm : T AV} {h : H} {Q : KQ} (hw : Stop (codeW P 26 123 none (codeI (bodyC Try.f26) [1, 1, 1, 0, 1, 1, 1, 0, 0, 1, 0, 0, 1, 0, 1, 1, 1, 1, 1]) ds tm h Q)) : codeW P 26 123 none (codeI (bodyC Try.f26) [1, 1, 1, 0, 1, 1, 1, 0, 0, 1, 0, 0, 1, 0, 1, 1, 1, 1, 1]) ds tm h Q := hw
theorem grownPut2 (h0 h1 hs h h4 : H) (l : List Nat) (i x k c : Nat) (vl : AV) (R : List Pr) (s w : AV) (mk mk2 : Nat → Nat) (hS : GwS h0 hs l h0.nx h1.nx h i R s w mk) (hx : l[i]? = some x) (hi2 : i < 60) (hk : k = x % 8) (x1 : h0.nx < h1.nx) (xs : hs.nx = h1.nx + 2) (hsk : skipB l i x = false) (htb : tombB (growA l i) x = false)
    (o4 : Only h h4 [h1.nx]) (hc : h.nx ≤ c) (hc4 : c < h4.nx) (m2 : mk2 k = if nthK (growA l i) k = 0 then i / 2 + 2 else madeK (growA l i) k) (m3 : ∀ j, j ≠ k → mk2 j = mk j) (c6 : arr8 h4 h1.nx mk2) (w6 : wrAt h4 h1.nx = true)
    (cs : ∀ j, j < 8 → cellAt h4 c j = (rcC ⟨(i / 2 + 2, i % 2), kk k, [], 0, 0, 0, false⟩)[j]?) (wc : wrAt h4 c = true)
    (tm : T AV) (t0 : tm.get 0 = some vl) (t4 : tm.get 4 = some (.ptr h0.nx 0)) (t5 : tm.get 5 = some w) (t6 : tm.get 6 = some (.ptr h1.nx 0)) (t7 : tm.get 7 = some (.ptr (h1.nx + 1) 0)) (t8 : tm.get 8 = some (.int .i64 (.ofNat i))) (t9 : tm.get 9 = some (.int .u8 (.ofNat k))) (t10 : tm.get 10 = some (.ptr c 0))
    (K : KQ) (hK : ∀ tm2 h2 R2 s2 w2 mk2, tm2.get 0 = some vl → tm2.get 4 = some (.ptr h0.nx 0) → tm2.get 5 = some w2 → tm2.get 6 = some (.ptr h1.nx 0) → tm2.get 7 = some (.ptr (h1.nx + 1) 0) → tm2.get 8 = some (.int .i64 (.ofNat i)) → GwS h0 hs l h0.nx h1.nx h2 (i + 1) R2 s2 w2 mk2 → K .norm [] tm2 h2) :
    codeW P 26 123 none (codeI (bodyC Try.f26) [1, 1, 1, 0, 1, 1, 1, 0, 0, 1, 0, 0, 1, 0, 1, 1, 1, 1, 1]) [] tm h4 (seqK (codeK P 26 123 none (codeI (bodyC Try.f26) [1, 1, 1, 1, 0, 0, 1, 0, 0, 1, 0, 1, 1, 1, 1, 1]) K) K) := by
  obtain ⟨oo, xx, ix, bs, gr, md, gi, m6, -, c7, -, w7⟩ := hS
  have hx8 : k < 8 := by rw [hk]; exact Nat.mod_lt _ (by omega)
  have i7 := fun kd => ia104 (h1.nx + 1) kd k hx8
  have i6 := fun kd => ia104 h1.nx kd k hx8
  have xo := ix.ix.lt
  have x4 := o4.1
  have xoo := oo.1
  have hgs := gi.step hx hsk (by omega)
  obtain ⟨r, hr⟩ : ∃ r, r = recOf (growA l i) i x := ⟨_, rfl⟩
  rw [← hr, ← hk] at hgs
  obtain ⟨gi2, ch1, ch2, -, hnx, hft⟩ := hgs
  have hnx := hnx htb
  obtain ⟨n, hn⟩ : ∃ n, n = nthK (growA l i) k := ⟨_, rfl⟩
  have hrr : r = ⟨(i / 2 + 2, i % 2), kk k, [], mk2 k, i / 2 + 2, n + 1, false⟩ := by rw [hr, m2, hn, hk]; unfold recOf; rw [if_neg (by rw [htb]; simp)]
  have c74 : cellAt h4 (h1.nx + 1) k = some (.int .u64 (.ofNat n)) := by rw [hn]; exact W.kcell (c7 k hx8) o4 (by omega) (by simp)
  have c64 : cellAt h4 h1.nx k = some (.int .u64 (.ofNat (mk2 k))) := c6 k hx8
  have w74 := W.kwr w7 o4 (by omega) (by simp)
  have hn60 : n ≤ 60 := by
    rw [hn]; unfold nthK lastK
    split
    · rename_i d hd
      split
      · omega
      · have := gi.nth k hx8 d (List.mem_of_getLast? hd); omega
    · omega
  have e1 : wrapF .u64 (Int.ofNat n + Int.ofNat 1) = Int.ofNat (n + 1) := u64_add (by omega)
  obtain ⟨h5, h5e⟩ : ∃ h5, h5 = h4.sts (h1.nx + 1) k [.int .u64 (.ofNat (n + 1))] := ⟨_, rfl⟩
  have o5 : Only h4 h5 [h1.nx + 1] := by rw [h5e]; exact Only.sts (Only.refl _ _) (.inl (by simp))
  have x5 : h5.nx = h4.nx := by rw [h5e, nx_sts]
  have c75 : cellAt h5 (h1.nx + 1) k = some (.int .u64 (.ofNat (n + 1))) := by rw [h5e, cellAt_sts w74, if_pos ⟨rfl, Nat.le_refl _, by simp⟩]; simp
  have c65 := W.kcell c64 o5 (by omega) (by simp)
  have k0 : cellAt h5 c 0 = some (.int .u64 (.ofNat (i / 2 + 2))) := W.kcell (cs 0 (by omega)) o5 (by omega) (by simp; omega)
  have k1 : cellAt h5 c 1 = some (.int .u64 (.ofNat (i % 2))) := W.kcell (cs 1 (by omega)) o5 (by omega) (by simp; omega)
  have k2 : cellAt h5 c 2 = some (.str [97 + k]) := W.kcell (cs 2 (by omega)) o5 (by omega) (by simp; omega)
  have k4 : cellAt h5 c 4 = some (.int .u64 (.ofNat 0)) := W.kcell (cs 4 (by omega)) o5 (by omega) (by simp; omega)
  have k5 : cellAt h5 c 5 = some (.int .u64 (.ofNat 0)) := W.kcell (cs 5 (by omega)) o5 (by omega) (by simp; omega)
  have k6 : cellAt h5 c 6 = some (.int .u64 (.ofNat 0)) := W.kcell (cs 6 (by omega)) o5 (by omega) (by simp; omega)
  have wc5 := W.kwr wc o5 (by omega) (by simp; omega)
  have nc : (h1.nx = c) = False := by simp; omega
  have nc1 : (h1.nx + 1 = c) = False := by simp; omega
  repeat' (first | ((with_reducible refine st1 ?_); (conv => whnf); (with_reducible refine ⟨?_⟩)) | ((with_reducible refine st_dw ?_ rfl rfl ?_ ?_); exact rfl; kernel_rfl; (conv => arg 5; whnf); (conv => arg 3; whnf)) | ((with_reducible refine retW_intro rfl ?_); (conv => arg 2; whnf)) | ((with_reducible first | refine iB ?_ ?_ | refine gWt ?_ ?_ | refine gWf ?_ ?_ | refine gXt ?_ ?_ | refine gXf ?_ ?_) <;> intro hb <;> (try simp only [hb])) | ((with_reducible show drawI _ _ _ _ _ _ _ _ _); first | ((with_reducible refine kI_rd ?_ ?_); exact rfl) | ((with_reducible apply kI_rg); exact rfl; exact rfl) | ((with_reducible refine kI_cv ?_ ?_ ?_); exact rfl; kernel_rfl) | ((with_reducible apply kI_al); exact rfl; exact rfl) | ((with_reducible refine kI_ex ?_ ?_ ?_ ?_ ?_); exact rfl; kernel_rfl; exact rfl) | ((with_reducible apply kI_eg); exact rfl; kernel_rfl; exact rfl) | ((with_reducible refine kI_nl ?_ ?_))) | ((with_reducible show eOk _ _ _ _ _ _); first | (exact eok_nil) | (refine ke_rd ?_ ?_ ?_; exact rfl) | (apply ke_rg; exact rfl; exact rfl) | (refine ke_cv ?_ ?_ ?_ ?_; exact rfl; kernel_rfl) | (apply ke_al; exact rfl; exact rfl)) | ((with_reducible refine freshIs_new ?_); kernel_rfl) | (simp only [B, xB, F, reduceLT, reduceLeDiff, reduceEqDiff, reduceAdd, reduceMul, reduceSub, ↓reduceIte, eq_self, t0, t4, t5, t6, t7, t8, t9, t10, i6, i7, c74, w74, put_sts, e1, ← h5e, c75, c65, k0, k1, k2, k4, k5, k6, wc5, nc, nc1]))
  obtain ⟨h6, h6e⟩ : ∃ h6, h6 = ((h5.sts c 4 [.int .u64 (.ofNat (mk2 k))]).sts c 5 [.int .u64 (.ofNat (i / 2 + 2))]).sts c 6 [.int .u64 (.ofNat (n + 1))] := ⟨_, rfl⟩
  have o6 : Only h5 h6 [c] := by rw [h6e]; exact ((Only.sts (Only.refl _ _) (.inl (by simp))).sts (.inl (by simp))).sts (.inl (by simp))
  have x6 : h6.nx = h5.nx := by rw [h6e, nx_sts, nx_sts, nx_sts]
  have cs6 : ∀ j, j < 8 → cellAt h6 c j = (rcC r)[j]? := fun j hj => by
    rw [h6e, cellAt_sts (by rw [wrAt_sts, wrAt_sts]; exact wc5), cellAt_sts (by rw [wrAt_sts]; exact wc5), cellAt_sts wc5, hrr]
    have old := W.kcell (cs j hj) o5 (by omega) (by simp; omega)
    match j, hj, old with
    | 0, _, old => rw [if_neg (by simp), if_neg (by simp), if_neg (by simp)]; exact old
    | 1, _, old => rw [if_neg (by simp), if_neg (by simp), if_neg (by simp)]; exact old
    | 2, _, old => rw [if_neg (by simp), if_neg (by simp), if_neg (by simp)]; exact old
    | 3, _, old => rw [if_neg (by simp), if_neg (by simp), if_neg (by simp)]; exact old
    | 4, _, _ => simp [rcC]
    | 5, _, _ => simp [rcC]
    | 6, _, _ => simp [rcC]
    | 7, _, old => rw [if_neg (by simp), if_neg (by simp), if_neg (by simp)]; exact old
  rw [← h6e]
  have oh6 : Only h h6 [h1.nx, h1.nx + 1] := ⟨by omega, fun b hb hn => by
    simp only [List.mem_cons, List.mem_nil_iff, or_false, not_or] at hn
    rw [o6.2 b (by omega) (by simp; omega), o5.2 b (by omega) (by simp; exact hn.2), o4.2 b hb (by simp; exact hn.1)]⟩
  have hlow : ∀ b, b ∈ [h1.nx, h1.nx + 1] → b ≠ h0.nx ∧ b < hs.nx := fun b hb => by simp at hb; omega
  have ix6 : IxR (Fl hs.nx w) h6 h0.nx R s := ix.off oh6 (fun b hb => ⟨(hlow b hb).1, fun e => by have := bs _ e; have := (hlow b hb).2; omega, fun _ e => by have := e.1; have := (hlow b hb).2; omega⟩) (fun b _ e => e) (fun b hb => ⟨by omega, fun e => by have := gr.base e; omega⟩)
  have hlen8 : R.length < 100000 := by
    rw [md.len]
    have h1 := List.length_filter_le (fun k => !(chK (growA l i) k).isEmpty) (List.range 8)
    rw [List.length_range] at h1; omega
  have hw := md.wfg (kk k)
  have hal := md.al k hx8
  have hfb : W.fitsB (getL (kk k) R) (i / 2 + 2, i % 2) = true := by rw [W.fits_all, hal]; exact hft
  have hE : W.putE (getL (kk k) R) (i / 2 + 2, i % 2) = 0 := by unfold W.putE; rw [if_pos hfb]
  have hP : W.putP (getL (kk k) R) (i / 2 + 2, i % 2) = W.putL (getL (kk k) R) (i / 2 + 2, i % 2) (i / 2 + 2) 1 := by unfold W.putP; rw [if_pos hfb]
  refine ((IxPutC h6 h0.nx (kk k) R s (i / 2 + 2, i % 2) ix6 hlen8 ⟨by unfold kk; simp, by unfold kk; simp⟩ ((md.szg _).le (by omega))).call P).mono P ?_
  rintro v h7 ⟨rfl, g, s', o7, nb7, ix7⟩
  rw [hE, if_pos rfl, hP] at ix7
  rw [hE]
  unfold W.errV
  have hbs : ∀ b, b < hs.nx → b ≠ h0.nx → b ∉ h0.nx :: rowL s := fun b hb hn q => by
    rcases List.mem_cons.1 q with e | e
    · exact hn e
    · unfold rowL at e
      split at e
      · rename_i c' q'
        rw [List.mem_singleton] at e; subst e
        have := bs _ q'; omega
      · cases e
  have hrw : ∀ b, h.nx ≤ b → b ∉ h0.nx :: rowL s := fun b hb q => by
    rcases List.mem_cons.1 q with e | e
    · omega
    · unfold rowL at e
      split at e
      · rename_i c' q'
        rw [List.mem_singleton] at e; subst e
        have := ix.ix.sl.blk _ q'; omega
      · cases e
  have hww : ∀ b, blkOf w = some b → b ∉ h0.nx :: rowL s := fun b hb q => by
    have hcb := gr.base hb
    rcases List.mem_cons.1 q with e | e
    · omega
    · unfold rowL at e
      split at e
      · rename_i c' q'
        rw [List.mem_singleton] at e; subst e
        exact row_ne ix.rw gr q' hb
      · cases e
  have x7 := o7.1
  have o07 : Only h0 h7 [] := ⟨by omega, fun b hb _ => by
    rw [o7.2 b (by omega) (hbs b (by omega) (by omega)), oh6.2 b (by omega) (by simp; omega), oo.2 b hb (by simp)]⟩
  have cs7 : ∀ j, j < 8 → cellAt h7 c j = (rcC r)[j]? := fun j hj => W.kcell (cs6 j hj) o7 (by omega) (hrw _ (by omega))
  have gr7 : Grows 8 hs.nx h7 w (growA l i).length (hsC (growA l i)) := gr.of_get (by omega) (fun b hb => by
    have := gr.base hb
    rw [o7.2 b (by omega) (hww b hb), oh6.2 b (by omega) (by simp; omega)])
  repeat' (first | (with_reducible refine stopT ?_) | ((with_reducible refine st1 ?_); (conv => whnf); (with_reducible refine ⟨?_⟩)) | ((with_reducible refine retW_intro rfl ?_); (conv => arg 2; whnf)) | ((with_reducible first | refine iB ?_ ?_ | refine gWt ?_ ?_ | refine gWf ?_ ?_) <;> intro hb <;> (try simp only [hb])) | (simp only [B, xB, F, reduceLT, reduceLeDiff, reduceEqDiff, reduceAdd, reduceMul, reduceSub, ↓reduceIte, eq_self, t0, t4, t5, t6, t7, t8, t9]))
  have hgl := gi.len
  refine grownTail h7 hs.nx c w (growA l i) r _ (by omega) (by omega) cs7 gr7 (by omega) (by simp only [B, xB, F, reduceLT, reduceLeDiff, reduceEqDiff, reduceAdd, reduceMul, reduceSub, ↓reduceIte, eq_self, t5]) (by simp only [B, xB, F, reduceLT, reduceLeDiff, reduceEqDiff, reduceAdd, reduceMul, reduceSub, ↓reduceIte, eq_self, t10]) K ?_
  intro tm2 h8 w2 s0 s4 s6 s7 s8 s5 x8 hold hw2 gr8
  have hA : growA l (i + 1) = growA l i ++ [r] := by rw [growA_succ hx, if_neg (by rw [hsk]; simp), ← hr]
  refine hK tm2 h8 (setI (kk k) (W.putL (getL (kk k) R) (i / 2 + 2, i % 2) (i / 2 + 2) 1) g R) s' w2 mk2 (by rw [s0]; simp only [B, xB, F, reduceLT, reduceLeDiff, reduceEqDiff, reduceAdd, reduceMul, reduceSub, ↓reduceIte, eq_self, t0]) (by rw [s4]; simp only [B, xB, F, reduceLT, reduceLeDiff, reduceEqDiff, reduceAdd, reduceMul, reduceSub, ↓reduceIte, eq_self, t4]) s5 (by rw [s6]; simp only [B, xB, F, reduceLT, reduceLeDiff, reduceEqDiff, reduceAdd, reduceMul, reduceSub, ↓reduceIte, eq_self, t6]) (by rw [s7]; simp only [B, xB, F, reduceLT, reduceLeDiff, reduceEqDiff, reduceAdd, reduceMul, reduceSub, ↓reduceIte, eq_self, t7]) (by rw [s8]; simp only [B, xB, F, reduceLT, reduceLeDiff, reduceEqDiff, reduceAdd, reduceMul, reduceSub, ↓reduceIte, eq_self, t8]) ?_
  have hns' : ∀ b, blkOf s' = some b → hs.nx ≤ b := fun b e => by
    rcases nb7 b e with q | q
    · exact bs b q
    · omega
  have o78 : Only h7 h8 (rowL w) := ⟨x8, fun b hb hn => hold b hb (fun e => hn (by unfold rowL; rw [e]; simp))⟩
  have ix8 : IxR (Fl hs.nx w2) h8 h0.nx _ s' := ix7.off o78 (fun b hb => by
    unfold rowL at hb
    split at hb
    · rename_i c' q'
      rw [List.mem_singleton] at hb; subst hb
      have := gr.base q'
      exact ⟨by omega, fun e => row_ne ix7.rw gr7 e q', fun _ e => e.2 q'⟩
    · cases hb) (fun b hb e => ⟨e.1, fun q => by have := hw2 b q; omega⟩) (fun b hb => ⟨by omega, fun q => by have := hw2 b q; omega⟩)
  have keep8 : ∀ {b j : Nat} {v : Option AV}, cellAt h7 b j = v → b < hs.nx → cellAt h8 b j = v := fun e hb => by
    rw [cellAt_of_get (hold _ (by omega) (fun q => by have := gr.base q; omega))]; exact e
  have wr8 : ∀ {b : Nat} {v : Bool}, wrAt h7 b = v → b < hs.nx → wrAt h8 b = v := fun e hb => by
    rw [wrAt_of_get (hold _ (by omega) (fun q => by have := gr.base q; omega))]; exact e
  have keep7 : ∀ {b j : Nat} {v : Option AV}, cellAt h5 b j = v → b < hs.nx → b ≠ h0.nx → cellAt h8 b j = v := fun e hb hn =>
    keep8 (W.kcell (W.kcell e o6 (by omega) (by simp; omega)) o7 (by omega) (hbs _ hb hn)) hb
  have wr7 : ∀ {b : Nat} {v : Bool}, wrAt h5 b = v → b < hs.nx → b ≠ h0.nx → wrAt h8 b = v := fun e hb hn =>
    wr8 (W.kwr (W.kwr e o6 (by omega) (by simp; omega)) o7 (by omega) (hbs _ hb hn)) hb
  refine ⟨⟨by omega, fun b hb _ => by rw [hold b (by omega) (fun q => by have := gr.base q; omega)]; exact o07.2 b hb (by simp)⟩, by omega, ix8, hns', by rw [hA]; exact gr8, ?_, by rw [hA]; exact gi2, ?_, ?_, ?_, ?_, ?_⟩
  · rw [hA]
    have hz8 := chK_len (growA l i ++ [r]) k
    have hap : W.all (W.putL (getL (kk k) R) (i / 2 + 2, i % 2) (i / 2 + 2) 1) = chK (growA l i) k ++ [toCh r] := by rw [W.all_putL hw, hal, hnx]
    have hD := md.set hx8 g (W.wf_put hw (i / 2 + 2, i % 2) (i / 2 + 2) 1) (fun e => by rw [e] at hap; simp [W.all] at hap) hap (by rw [ch1] at hz8; simp at hz8 ⊢; omega) ix8.ix.sr
    refine hD.congr fun j hj => ?_
    by_cases q : j = k
    · subst q; rw [if_pos rfl, ch1]
    · rw [if_neg q, ch2 j q]
  · intro j hj h0
    rw [hA] at h0 ⊢
    by_cases q : j = k
    · subst q
      unfold madeK lastK
      rw [ch1, List.getLast?_append, hrr]
      rfl
    · have e := ch2 j q
      rw [m3 j q]
      unfold nthK madeK lastK at *
      rw [e] at h0 ⊢
      exact m6 j hj h0
  · intro j hj
    exact keep7 (W.kcell (c6 j hj) o5 (by omega) (by simp)) (by omega) (by omega)
  · intro j hj
    refine keep7 ?_ (by omega) (by omega)
    rw [h5e, cellAt_sts w74, hA]
    by_cases q : j = k
    · subst q
      rw [if_pos ⟨rfl, Nat.le_refl _, by simp⟩, Nat.sub_self]
      unfold nthK lastK
      rw [ch1, List.getLast?_append, hrr]
      rfl
    · rw [if_neg (fun e => q (by have := e.2; simp at this; omega))]
      have e := ch2 j q
      have h1 := W.kcell (c7 j hj) o4 (by omega) (by simp)
      unfold nthK lastK at *
      rw [e]; exact h1
  · exact wr7 (W.kwr w6 o5 (by omega) (by simp)) (by omega) (by omega)
  · exact wr7 (by rw [h5e, wrAt_sts]; exact w74) (by omega) (by omega)
theorem grownPut (h0 h1 hs h h3 : H) (l : List Nat) (i x k c : Nat) (vl : AV) (R : List Pr) (s w : AV) (mk : Nat → Nat) (hS : GwS h0 hs l h0.nx h1.nx h i R s w mk) (hx : l[i]? = some x) (hi2 : i < 60) (hk : k = x % 8) (x1 : h0.nx < h1.nx) (xs : hs.nx = h1.nx + 2) (hsk : skipB l i x = false) (htb : tombB (growA l i) x = false)
    (o3 : Only h h3 []) (hc : h.nx ≤ c) (hc3 : c < h3.nx)
    (cs : ∀ j, j < 8 → cellAt h3 c j = (rcC ⟨(i / 2 + 2, i % 2), kk k, [], 0, 0, 0, false⟩)[j]?) (wc : wrAt h3 c = true)
    (tm : T AV) (t0 : tm.get 0 = some vl) (t4 : tm.get 4 = some (.ptr h0.nx 0)) (t5 : tm.get 5 = some w) (t6 : tm.get 6 = some (.ptr h1.nx 0)) (t7 : tm.get 7 = some (.ptr (h1.nx + 1) 0)) (t8 : tm.get 8 = some (.int .i64 (.ofNat i))) (t9 : tm.get 9 = some (.int .u8 (.ofNat k))) (t10 : tm.get 10 = some (.ptr c 0))
    (K : KQ) (hK : ∀ tm2 h2 R2 s2 w2 mk2, tm2.get 0 = some vl → tm2.get 4 = some (.ptr h0.nx 0) → tm2.get 5 = some w2 → tm2.get 6 = some (.ptr h1.nx 0) → tm2.get 7 = some (.ptr (h1.nx + 1) 0) → tm2.get 8 = some (.int .i64 (.ofNat i)) → GwS h0 hs l h0.nx h1.nx h2 (i + 1) R2 s2 w2 mk2 → K .norm [] tm2 h2) :
    codeW P 26 123 none (codeI (bodyC Try.f26) [1, 1, 0, 1, 1, 1, 0, 0, 1, 0, 0, 1, 0, 1, 1, 1, 1, 1]) [] tm h3 (seqK (codeK P 26 123 none (codeI (bodyC Try.f26) [1, 1, 1, 1, 0, 0, 1, 0, 0, 1, 0, 1, 1, 1, 1, 1]) K) K) := by
  have hS' := hS
  obtain ⟨oo, xx, ix, bs, gr, md, gi, m6, c6, c7, w6, w7⟩ := hS'
  have hx8 : k < 8 := by rw [hk]; exact Nat.mod_lt _ (by omega)
  have i7 := fun kd => ia104 (h1.nx + 1) kd k hx8
  have i6 := fun kd => ia104 h1.nx kd k hx8
  have x3 := o3.1
  have c73 := W.kcell (c7 k hx8) o3 (by omega) (by simp)
  have c63 := W.kcell (c6 k hx8) o3 (by omega) (by simp)
  have w63 := W.kwr w6 o3 (by omega) (by simp)
  have k0 : cellAt h3 c 0 = some (.int .u64 (.ofNat (i / 2 + 2))) := cs 0 (by omega)
  cases q : decide (nthK (growA l i) k = 0) with
  | false =>
    have q' := of_decide_eq_false q
    repeat' (first | (with_reducible refine stopP2 ?_) | ((with_reducible refine st1 ?_); (conv => whnf); (with_reducible refine ⟨?_⟩)) | ((with_reducible refine retW_intro rfl ?_); (conv => arg 2; whnf)) | ((with_reducible first | refine iB ?_ ?_ | refine gWt ?_ ?_ | refine gWf ?_ ?_) <;> intro hb <;> (try simp only [hb])) | (simp only [B, xB, F, reduceLT, reduceLeDiff, reduceEqDiff, reduceAdd, reduceMul, reduceSub, ↓reduceIte, eq_self, t0, t4, t5, t6, t7, t8, t9, t10, i6, i7, c73, q]))
    exact grownPut2 h0 h1 hs h h3 l i x k c vl R s w mk mk hS hx hi2 hk x1 xs hsk htb (Only.wide o3) hc hc3 (by rw [if_neg q']; exact m6 k hx8 (by omega)) (fun _ _ => rfl) (fun j hj => W.kcell (c6 j hj) o3 (by omega) (by simp)) w63 cs wc _ (by simp only [B, xB, F, reduceLT, reduceLeDiff, reduceEqDiff, reduceAdd, reduceMul, reduceSub, ↓reduceIte, eq_self, t0]) (by simp only [B, xB, F, reduceLT, reduceLeDiff, reduceEqDiff, reduceAdd, reduceMul, reduceSub, ↓reduceIte, eq_self, t4]) (by simp only [B, xB, F, reduceLT, reduceLeDiff, reduceEqDiff, reduceAdd, reduceMul, reduceSub, ↓reduceIte, eq_self, t5]) (by simp only [B, xB, F, reduceLT, reduceLeDiff, reduceEqDiff, reduceAdd, reduceMul, reduceSub, ↓reduceIte, eq_self, t6]) (by simp only [B, xB, F, reduceLT, reduceLeDiff, reduceEqDiff, reduceAdd, reduceMul, reduceSub, ↓reduceIte, eq_self, t7]) (by simp only [B, xB, F, reduceLT, reduceLeDiff, reduceEqDiff, reduceAdd, reduceMul, reduceSub, ↓reduceIte, eq_self, t8]) (by simp only [B, xB, F, reduceLT, reduceLeDiff, reduceEqDiff, reduceAdd, reduceMul, reduceSub, ↓reduceIte, eq_self, t9]) (by simp only [B, xB, F, reduceLT, reduceLeDiff, reduceEqDiff, reduceAdd, reduceMul, reduceSub, ↓reduceIte, eq_self, t10]) K hK
  | true =>
    have q' := of_decide_eq_true q
    obtain ⟨h4, h4e⟩ : ∃ h4, h4 = h3.sts h1.nx k [.int .u64 (.ofNat (i / 2 + 2))] := ⟨_, rfl⟩
    have o34 : Only h3 h4 [h1.nx] := by rw [h4e]; exact Only.sts (Only.refl _ _) (.inl (by simp))
    have x4 : h4.nx = h3.nx := by rw [h4e, nx_sts]
    have o4 : Only h h4 [h1.nx] := Only.trans0 o3 o34
    repeat' (first | (with_reducible refine stopP2 ?_) | ((with_reducible refine st1 ?_); (conv => whnf); (with_reducible refine ⟨?_⟩)) | ((with_reducible refine retW_intro rfl ?_); (conv => arg 2; whnf)) | ((with_reducible first | refine iB ?_ ?_ | refine gWt ?_ ?_ | refine gWf ?_ ?_) <;> intro hb <;> (try simp only [hb])) | (simp only [B, xB, F, reduceLT, reduceLeDiff, reduceEqDiff, reduceAdd, reduceMul, reduceSub, ↓reduceIte, eq_self, t0, t4, t5, t6, t7, t8, t9, t10, i6, i7, c73, c63, w63, k0, put_sts, q, ← h4e]))
    refine grownPut2 h0 h1 hs h h4 l i x k c vl R s w mk (fun j => if j = k then i / 2 + 2 else mk j) hS hx hi2 hk x1 xs hsk htb o4 hc (by omega) (by rw [if_pos rfl, if_pos q']) (fun j hj => if_neg hj) (fun j hj => ?_) (by rw [h4e, wrAt_sts]; exact w63) (fun j hj => W.kcell (cs j hj) o34 (by omega) (by simp; omega)) (W.kwr wc o34 (by omega) (by simp; omega)) _ (by simp only [B, xB, F, reduceLT, reduceLeDiff, reduceEqDiff, reduceAdd, reduceMul, reduceSub, ↓reduceIte, eq_self, t0]) (by simp only [B, xB, F, reduceLT, reduceLeDiff, reduceEqDiff, reduceAdd, reduceMul, reduceSub, ↓reduceIte, eq_self, t4]) (by simp only [B, xB, F, reduceLT, reduceLeDiff, reduceEqDiff, reduceAdd, reduceMul, reduceSub, ↓reduceIte, eq_self, t5]) (by simp only [B, xB, F, reduceLT, reduceLeDiff, reduceEqDiff, reduceAdd, reduceMul, reduceSub, ↓reduceIte, eq_self, t6]) (by simp only [B, xB, F, reduceLT, reduceLeDiff, reduceEqDiff, reduceAdd, reduceMul, reduceSub, ↓reduceIte, eq_self, t7]) (by simp only [B, xB, F, reduceLT, reduceLeDiff, reduceEqDiff, reduceAdd, reduceMul, reduceSub, ↓reduceIte, eq_self, t8]) (by simp only [B, xB, F, reduceLT, reduceLeDiff, reduceEqDiff, reduceAdd, reduceMul, reduceSub, ↓reduceIte, eq_self, t9]) (by simp only [B, xB, F, reduceLT, reduceLeDiff, reduceEqDiff, reduceAdd, reduceMul, reduceSub, ↓reduceIte, eq_self, t10]) K hK
    show cellAt h4 h1.nx j = some (.int .u64 (.ofNat (if j = k then i / 2 + 2 else mk j)))
    rw [h4e, cellAt_sts w63]
    by_cases e : j = k
    · subst e; rw [if_pos ⟨rfl, Nat.le_refl _, by simp⟩, if_pos rfl, Nat.sub_self]; rfl
    · rw [if_neg (fun q => e (by have := q.2; simp at this; omega)), if_neg e]
      exact W.kcell (c6 j hj) o3 (by omega) (by simp)
theorem grownStep (h0 h1 hs h : H) (l : List Nat) (i x bl o : Nat) (cap : Cap) (R : List Pr) (s w : AV) (mk : Nat → Nat) (hS : GwS h0 hs l h0.nx h1.nx h i R s w mk) (hx : l[i]? = some x) (hi2 : i < 60) (hxb : x < 256) (hbl : bl < h0.nx) (x1 : h0.nx < h1.nx) (xs : hs.nx = h1.nx + 2)
    (p0 : cellAt h bl (o + i) = some (.int .u8 (.ofNat x))) (tm' : T AV) (hsk : skipB l i x = false) (t0 : tm'.get 0 = some (.slice bl o l.length cap)) (t4 : tm'.get 4 = some (.ptr h0.nx 0)) (t5 : tm'.get 5 = some w) (t6 : tm'.get 6 = some (.ptr h1.nx 0)) (t7 : tm'.get 7 = some (.ptr (h1.nx + 1) 0)) (t8 : tm'.get 8 = some (.int .i64 (.ofNat i))) (t9 : tm'.get 9 = some (.int .u8 (.ofNat (x % 8))))
    (K : KQ) (hK : ∀ tm2 h2 R2 s2 w2 mk2, tm2.get 0 = some (.slice bl o l.length cap) → tm2.get 4 = some (.ptr h0.nx 0) → tm2.get 5 = some w2 → tm2.get 6 = some (.ptr h1.nx 0) → tm2.get 7 = some (.ptr (h1.nx + 1) 0) → tm2.get 8 = some (.int .i64 (.ofNat i)) → GwS h0 hs l h0.nx h1.nx h2 (i + 1) R2 s2 w2 mk2 → K .norm [] tm2 h2) :
    codeW P 26 123 none (codeI (bodyC Try.f26) [1, 1, 0, 0, 1, 0, 0, 1, 0, 1, 1, 1, 1, 1]) [] tm' h K := by
  have hS' := hS
  obtain ⟨oo, xx, ix, bs, gr, md, gi, m6, c6, c7, w6, w7⟩ := hS'
  have hi : i < l.length := (List.getElem?_eq_some_iff.1 hx).1
  have lt1 : (i < l.length) = True := by simp [hi]
  have hx8 : x % 8 < 8 := Nat.mod_lt _ (by omega)
  obtain ⟨k, hk⟩ : ∃ k, k = x % 8 := ⟨_, rfl⟩
  rw [← hk] at t9 hx8
  have e1 : wrapF .i64 (Int.ofNat (i / 2)) = Int.ofNat (i / 2) := W.i64_nat (by omega)
  have e2 : wrapF .u64 (Int.ofNat (i / 2)) = Int.ofNat (i / 2) := W.u64_nat (by omega)
  have e3 : wrapF .u64 (Int.ofNat (i / 2) + Int.ofNat 2) = Int.ofNat (i / 2 + 2) := u64_add (by omega)
  have e4 : wrapF .u64 (Int.ofNat (i % 2)) = Int.ofNat (i % 2) := W.u64_nat (by omega)
  have e5 : wrapF .u8 (Int.ofNat 97 + Int.ofNat k) = Int.ofNat (97 + k) := u8_nat (a := 97 + k) (by omega)
  have e6 : wrapF .u8 (Int.ofNat (x / 8)) = Int.ofNat (x / 8) := u8_nat (by omega)
  obtain ⟨h2, h2e⟩ : ∃ h2, h2 = h.newCells 5 [.int .u8 (.ofNat (97 + k))] := ⟨_, rfl⟩
  have o2 : Only h h2 [] := by rw [h2e]; exact (Only.refl _ _).new _ _
  have x2 : h2.nx = h.nx + 1 := by rw [h2e]; rfl
  have z2 : cellAt h2 h.nx 0 = some (.int .u8 (.ofNat (97 + k))) := by rw [h2e]; simp only [B, xB, F, reduceLT, reduceLeDiff, reduceEqDiff, reduceAdd, reduceMul, reduceSub, ↓reduceIte, eq_self]
  have cb := conv_b1 z2 (by omega)
  obtain ⟨r0, hr0⟩ : ∃ r0 : Rc, r0 = ⟨(i / 2 + 2, i % 2), kk k, [], 0, 0, 0, false⟩ := ⟨_, rfl⟩
  obtain ⟨h3, h3e⟩ : ∃ h3, h3 = (h2.newCells 68 (rcC rc0)).sts h2.nx 0 (rcC r0) := ⟨_, rfl⟩
  have o3 : Only h2 h3 [] := by rw [h3e]; exact ((Only.refl _ _).new _ _).sts (.inr (Nat.le_refl _))
  have x3 : h3.nx = h2.nx + 1 := by rw [h3e, nx_sts, nx_new]
  have cs : ∀ j, j < 8 → cellAt h3 h2.nx j = (rcC r0)[j]? := fun j hj => by
    rw [h3e, cellAt_sts (by rw [wrAt_new, if_pos rfl]), if_pos ⟨rfl, Nat.zero_le _, by rw [rcC_len]; omega⟩]; rfl
  have ws : wrAt h3 h2.nx = true := by rw [h3e, wrAt_sts, wrAt_new, if_pos rfl]
  have h3e' := h3e
  rw [hr0] at h3e'
  unfold rcC rc0 kk at h3e'
  have xo := ix.ix.lt
  have o23 := o2.t o3
  have p3 := W.kcell p0 o23 (by have := oo.1; omega) (by simp)
  have c73 := W.kcell (c7 k hx8) o23 (by omega) (by simp)
  have i7 := fun kd => ia104 (h1.nx + 1) kd k hx8
  have i6 := fun kd => ia104 h1.nx kd k hx8
  cases q3 : decide (x / 8 % 3 = 0) with
  | true =>
    cases q4 : decide (0 < nthK (growA l i) k) with
    | true =>
      repeat' (first | ((with_reducible refine st1 ?_); (conv => whnf); (with_reducible refine ⟨?_⟩)) | ((with_reducible refine retW_intro rfl ?_); (conv => arg 2; whnf)) | ((with_reducible first | refine iB ?_ ?_ | refine gWt ?_ ?_ | refine gWf ?_ ?_) <;> intro hb <;> (try simp only [hb])) | (simp only [B, xB, F, reduceLT, reduceLeDiff, reduceEqDiff, reduceAdd, reduceMul, reduceSub, ↓reduceIte, eq_self, t0, t4, t5, t6, t7, t8, t9, lt1, e1, e2, e3, e4, e5, e6, ← h2e, cb, ← h3e', p3, c73, i7, i6, q3, q4, Nat.mul_one, b_rem _ _ _ (nat_ne_zero (show 0 < 8 by omega)), b_rem _ _ _ (nat_ne_zero (show 0 < 2 by omega)), b_rem _ _ _ (nat_ne_zero (show 0 < 3 by omega)), b_quo _ _ _ (nat_ne_zero (show 0 < 8 by omega)), b_quo _ _ _ (nat_ne_zero (show 0 < 2 by omega)), tmod_nat]))
      have g0 : cellAt h3 h2.nx 0 = some (.int .u64 (.ofNat (i / 2 + 2))) := by rw [cs 0 (by omega), hr0]; rfl
      have g1 : cellAt h3 h2.nx 1 = some (.int .u64 (.ofNat (i % 2))) := by rw [cs 1 (by omega), hr0]; rfl
      have g2 : cellAt h3 h2.nx 2 = some (.str [97 + k]) := by rw [cs 2 (by omega), hr0]; rfl
      have g7 : cellAt h3 h2.nx 7 = some (.bool false) := by rw [cs 7 (by omega), hr0]; rfl
      obtain ⟨h4, h4e⟩ : ∃ h4, h4 = h3.sts h2.nx 7 [.bool true] := ⟨_, rfl⟩
      have o4 : Only h h4 [] := by rw [h4e]; exact o23.sts (.inr (by omega))
      have x4 : h4.nx = h3.nx := by rw [h4e, nx_sts]
      repeat' (first | ((with_reducible refine st1 ?_); (conv => whnf); (with_reducible refine ⟨?_⟩)) | ((with_reducible refine retW_intro rfl ?_); (conv => arg 2; whnf)) | ((with_reducible first | refine iB ?_ ?_ | refine gWt ?_ ?_ | refine gWf ?_ ?_) <;> intro hb <;> (try simp only [hb])) | (simp only [B, xB, F, reduceLT, reduceLeDiff, reduceEqDiff, reduceAdd, reduceMul, reduceSub, ↓reduceIte, eq_self, g0, g1, g2, g7, ws, put_sts, ← h4e, t0, t4, t5, t6, t7, t8, t9]))
      obtain ⟨r, hr⟩ : ∃ r, r = recOf (growA l i) i x := ⟨_, rfl⟩
      have htb : tombB (growA l i) x = true := by unfold tombB; rw [q3, ← hk]; exact q4
      have hrr : r = ⟨(i / 2 + 2, i % 2), kk k, [], 0, 0, 0, true⟩ := by rw [hr, hk]; unfold recOf; rw [if_pos htb]
      have cs4 : ∀ j, j < 8 → cellAt h4 h2.nx j = (rcC r)[j]? := fun j hj => by
        rw [h4e, cellAt_sts ws]
        by_cases q : j = 7
        · subst q; rw [if_pos ⟨rfl, Nat.le_refl _, by simp⟩, hrr]; rfl
        · rw [if_neg (fun e => q (by have := e.2.2; simp at this; omega)), cs j hj, hr0, hrr]
          match j, hj, q with
          | 0, _, _ => rfl
          | 1, _, _ => rfl
          | 2, _, _ => rfl
          | 3, _, _ => rfl
          | 4, _, _ => rfl
          | 5, _, _ => rfl
          | 6, _, _ => rfl
          | 7, _, q => exact absurd rfl q
      have k0 : cellAt h4 h2.nx 0 = some (.int .u64 (.ofNat (i / 2 + 2))) := by rw [cs4 0 (by omega), hrr]; rfl
      have k1 : cellAt h4 h2.nx 1 = some (.int .u64 (.ofNat (i % 2))) := by rw [cs4 1 (by omega), hrr]; rfl
      have k2 : cellAt h4 h2.nx 2 = some (.str [97 + k]) := by rw [cs4 2 (by omega), hrr]; rfl
      repeat' (first | ((with_reducible refine st1 ?_); (conv => whnf); (with_reducible refine ⟨?_⟩)) | ((with_reducible refine retW_intro rfl ?_); (conv => arg 2; whnf)) | ((with_reducible first | refine iB ?_ ?_ | refine gWt ?_ ?_ | refine gWf ?_ ?_) <;> intro hb <;> (try simp only [hb])) | (simp only [B, xB, F, reduceLT, reduceLeDiff, reduceEqDiff, reduceAdd, reduceMul, reduceSub, ↓reduceIte, eq_self, k0, k1, k2, t0, t4, t5, t6, t7, t8, t9]))
      have hlen8 : R.length < 100000 := by
        rw [md.len]
        have h1 := List.length_filter_le (fun k => !(chK (growA l i) k).isEmpty) (List.range 8)
        rw [List.length_range] at h1; omega
      have hgs := gi.step hx hsk (by omega)
      rw [← hr, ← hk] at hgs
      obtain ⟨gi2, ch1, ch2, hop, -, hft⟩ := hgs
      have hop := hop htb
      have hw := md.wfg (kk k)
      have hal := md.al k hx8
      have hfb : W.fitsB (getL (kk k) R) (i / 2 + 2, i % 2) = true := by rw [W.fits_all, hal]; exact hft
      have hob : W.opn (getL (kk k) R) = true := by rw [W.opn_all hw, hal]; exact hop
      have hE : W.tombE (getL (kk k) R) (i / 2 + 2, i % 2) = 0 := by unfold W.tombE; rw [if_pos hfb, if_pos hob]
      have hP : W.tombP (getL (kk k) R) (i / 2 + 2, i % 2) = W.tombL (getL (kk k) R) (i / 2 + 2, i % 2) := by unfold W.tombP; rw [hfb, hob]; rfl
      refine ((IxTombC h4 h0.nx (kk k) R s (i / 2 + 2, i % 2) (ix.keep o4) hlen8 ⟨by unfold kk; simp, by unfold kk; simp⟩ ((md.szg _).le (by omega)) hw.outer).call P).mono P ?_
      rintro v h5 ⟨rfl, g, s', o5, nb5, ix5⟩
      rw [hE, if_pos rfl, hP] at ix5
      rw [hE]
      unfold W.errV
      have hbs : ∀ c, c < hs.nx → c ≠ h0.nx → c ∉ h0.nx :: rowL s := fun c hc hn q => by
        rcases List.mem_cons.1 q with e | e
        · exact hn e
        · unfold rowL at e
          split at e
          · rename_i c' q'
            rw [List.mem_singleton] at e; subst e
            have := bs _ q'; omega
          · cases e
      have hrw : ∀ c, h.nx ≤ c → c ∉ h0.nx :: rowL s := fun c hc q => by
        rcases List.mem_cons.1 q with e | e
        · omega
        · unfold rowL at e
          split at e
          · rename_i c' q'
            rw [List.mem_singleton] at e; subst e
            have := ix.ix.sl.blk _ q'; omega
          · cases e
      have hww : ∀ c, blkOf w = some c → c ∉ h0.nx :: rowL s := fun c hc q => by
        have hcb := gr.base hc
        rcases List.mem_cons.1 q with e | e
        · omega
        · unfold rowL at e
          split at e
          · rename_i c' q'
            rw [List.mem_singleton] at e; subst e
            exact row_ne ix.rw gr q' hc
          · cases e
      have x5 := o5.1
      have c75 := W.kcell (W.kcell (c7 k hx8) o4 (by omega) (by simp)) o5 (by omega) (hbs _ (by omega) (by omega))
      have w75 := W.kwr (W.kwr w7 o4 (by omega) (by simp)) o5 (by omega) (hbs _ (by omega) (by omega))
      obtain ⟨h6, h6e⟩ : ∃ h6, h6 = h5.sts (h1.nx + 1) k [.int .u64 (.ofNat 0)] := ⟨_, rfl⟩
      have o6 : Only h5 h6 [h1.nx + 1] := by rw [h6e]; exact Only.sts (Only.refl _ _) (.inl (by simp))
      have x6 : h6.nx = h5.nx := by rw [h6e, nx_sts]
      have o46 : Only h4 h6 ((h1.nx + 1) :: h0.nx :: rowL s) := o5.trans o6 (fun c q => List.mem_cons_of_mem _ q) (fun c q => .inl (by simp at q; subst q; simp))
      have o06 : Only h0 h6 [] := ⟨by have := oo.1; have := o4.1; omega, fun c hc _ => by
        rw [o6.2 c (by have := oo.1; omega) (by simp; omega), o5.2 c (by have := oo.1; omega) (hbs c (by omega) (by omega)), o4.2 c (by have := oo.1; omega) (by simp), oo.2 c hc (by simp)]⟩
      have cs6 : ∀ j, j < 8 → cellAt h6 h2.nx j = (rcC r)[j]? := fun j hj => W.kcell (W.kcell (cs4 j hj) o5 (by omega) (hrw _ (by omega))) o6 (by omega) (by simp; omega)
      have gr6 : Grows 8 hs.nx h6 w (growA l i).length (hsC (growA l i)) := gr.of_get (by have := o4.1; omega) (fun c hc => by
        have := gr.base hc
        rw [o6.2 c (by have := o4.1; omega) (by simp; omega), o5.2 c (by have := o4.1; omega) (hww c hc), o4.2 c (by omega) (by simp)])
      repeat' (first | (with_reducible refine stopT ?_) | ((with_reducible refine st1 ?_); (conv => whnf); (with_reducible refine ⟨?_⟩)) | ((with_reducible refine retW_intro rfl ?_); (conv => arg 2; whnf)) | ((with_reducible first | refine iB ?_ ?_ | refine gWt ?_ ?_ | refine gWf ?_ ?_) <;> intro hb <;> (try simp only [hb])) | (simp only [B, xB, F, reduceLT, reduceLeDiff, reduceEqDiff, reduceAdd, reduceMul, reduceSub, ↓reduceIte, eq_self, t0, t4, t5, t6, t7, t8, t9, i7, c75, w75, put_sts, ← h6e]))
      have hgl := gi.len
      refine grownTail h6 hs.nx h2.nx w (growA l i) r _ (by have := o4.1; omega) (by omega) cs6 gr6 (by omega) (by simp only [B, xB, F, reduceLT, reduceLeDiff, reduceEqDiff, reduceAdd, reduceMul, reduceSub, ↓reduceIte, eq_self, t5]) (by simp only [B, xB, F, reduceLT, reduceLeDiff, reduceEqDiff, reduceAdd, reduceMul, reduceSub, ↓reduceIte, eq_self]) K ?_
      intro tm2 h7 w2 s0 s4 s6 s7 s8 s5 x7 hold hw2 gr7
      have hA : growA l (i + 1) = growA l i ++ [r] := by rw [growA_succ hx, if_neg (by rw [hsk]; simp), ← hr]
      refine hK tm2 h7 (setI (kk k) (W.tombL (getL (kk k) R) (i / 2 + 2, i % 2)) g R) s' w2 mk (by rw [s0]; simp only [B, xB, F, reduceLT, reduceLeDiff, reduceEqDiff, reduceAdd, reduceMul, reduceSub, ↓reduceIte, eq_self, t0]) (by rw [s4]; simp only [B, xB, F, reduceLT, reduceLeDiff, reduceEqDiff, reduceAdd, reduceMul, reduceSub, ↓reduceIte, eq_self, t4]) s5 (by rw [s6]; simp only [B, xB, F, reduceLT, reduceLeDiff, reduceEqDiff, reduceAdd, reduceMul, reduceSub, ↓reduceIte, eq_self, t6]) (by rw [s7]; simp only [B, xB, F, reduceLT, reduceLeDiff, reduceEqDiff, reduceAdd, reduceMul, reduceSub, ↓reduceIte, eq_self, t7]) (by rw [s8]; simp only [B, xB, F, reduceLT, reduceLeDiff, reduceEqDiff, reduceAdd, reduceMul, reduceSub, ↓reduceIte, eq_self, t8]) ?_
      have x44 := o4.1
      have hns' : ∀ c, blkOf s' = some c → hs.nx ≤ c := fun c e => by
        rcases nb5 c e with q | q
        · exact bs c q
        · omega
      have ix6 : IxR (Fl hs.nx w) h6 h0.nx _ s' := ix5.off o6 (fun c hc => by
        simp only [List.mem_singleton] at hc
        subst hc
        exact ⟨by omega, fun e => by have := hns' _ e; omega, fun _ e => by have := e.1; omega⟩) (fun c _ e => e) (fun c hc => ⟨by omega, fun e => by have := gr.base e; omega⟩)
      have o67 : Only h6 h7 (rowL w) := ⟨x7, fun c hc hn => hold c hc (fun e => hn (by unfold rowL; rw [e]; simp))⟩
      have ix7 : IxR (Fl hs.nx w2) h7 h0.nx _ s' := ix6.off o67 (fun c hc => by
        unfold rowL at hc
        split at hc
        · rename_i c' q'
          rw [List.mem_singleton] at hc; subst hc
          have := gr.base q'
          exact ⟨by omega, fun e => row_ne ix6.rw gr6 e q', fun _ e => e.2 q'⟩
        · cases hc) (fun c hc e => ⟨e.1, fun q => by have := hw2 c q; omega⟩) (fun c hc => ⟨by omega, fun q => by have := hw2 c q; omega⟩)
      have keep7 : ∀ {b j : Nat} {v : Option AV}, cellAt h6 b j = v → b < hs.nx → cellAt h7 b j = v := fun e hb => by
        rw [cellAt_of_get (hold _ (by omega) (fun q => by have := gr.base q; omega))]; exact e
      have wr7 : ∀ {b : Nat} {v : Bool}, wrAt h6 b = v → b < hs.nx → wrAt h7 b = v := fun e hb => by
        rw [wrAt_of_get (hold _ (by omega) (fun q => by have := gr.base q; omega))]; exact e
      refine ⟨⟨by have := o06.1; omega, fun c hc _ => by rw [hold c (by have := oo.1; omega) (fun q => by have := gr.base q; omega)]; exact o06.2 c hc (by simp)⟩, by omega, ix7, hns', by rw [hA]; exact gr7, ?_, by rw [hA]; exact gi2, ?_, ?_, ?_, ?_, ?_⟩
      · rw [hA]
        have hz8 := chK_len (growA l i ++ [r]) k
        have hD := md.set hx8 g (W.wf_tomb hw _) (fun e => by have := W.all_tombL hw hob (i / 2 + 2, i % 2); rw [e] at this; simp [W.all] at this) (W.all_tombL hw hob (i / 2 + 2, i % 2)) (by rw [hal]; rw [List.length_append, ch1] at *; simp at hz8 ⊢; omega) ix7.ix.sr
        refine hD.congr fun j hj => ?_
        by_cases q : j = k
        · subst q; rw [if_pos rfl, ch1, hal, hrr]; rfl
        · rw [if_neg q, ch2 j q]
      · intro j hj h0
        rw [hA] at h0 ⊢
        by_cases q : j = k
        · subst q
          exfalso
          unfold nthK lastK at h0
          rw [ch1, List.getLast?_append, hrr] at h0
          simp [toCh] at h0
        · have e := ch2 j q
          unfold nthK madeK lastK at *
          rw [e] at h0 ⊢
          exact m6 j hj h0
      · intro j hj
        exact keep7 (W.kcell (W.kcell (W.kcell (c6 j hj) o4 (by omega) (by simp)) o5 (by omega) (hbs _ (by omega) (by omega))) o6 (by omega) (by simp)) (by omega)
      · intro j hj
        refine keep7 ?_ (by omega)
        rw [h6e, cellAt_sts w75, hA]
        by_cases q : j = k
        · subst q
          rw [if_pos ⟨rfl, Nat.le_refl _, by simp⟩, Nat.sub_self]
          unfold nthK lastK
          rw [ch1, List.getLast?_append, hrr]
          rfl
        · rw [if_neg (fun e => q (by have := e.2; simp at this; omega))]
          have e := ch2 j q
          have h1 := W.kcell (W.kcell (c7 j hj) o4 (by omega) (by simp)) o5 (by omega) (hbs _ (by omega) (by omega))
          unfold nthK lastK at *
          rw [e]; exact h1
      · exact wr7 (W.kwr (W.kwr (W.kwr w6 o4 (by omega) (by simp)) o5 (by omega) (hbs _ (by omega) (by omega))) o6 (by omega) (by simp)) (by omega)
      · exact wr7 (by rw [h6e, wrAt_sts]; exact w75) (by omega)
    | false =>
      have htb : tombB (growA l i) x = false := by unfold tombB; rw [q3, ← hk, q4]; rfl
      repeat' (first | (with_reducible refine stopP ?_) | ((with_reducible refine st1 ?_); (conv => whnf); (with_reducible refine ⟨?_⟩)) | ((with_reducible refine retW_intro rfl ?_); (conv => arg 2; whnf)) | ((with_reducible first | refine iB ?_ ?_ | refine gWt ?_ ?_ | refine gWf ?_ ?_) <;> intro hb <;> (try simp only [hb])) | (simp only [B, xB, F, reduceLT, reduceLeDiff, reduceEqDiff, reduceAdd, reduceMul, reduceSub, ↓reduceIte, eq_self, t0, t4, t5, t6, t7, t8, t9, lt1, e1, e2, e3, e4, e5, e6, ← h2e, cb, ← h3e', p3, c73, i7, i6, q3, q4, Nat.mul_one, b_rem _ _ _ (nat_ne_zero (show 0 < 8 by omega)), b_rem _ _ _ (nat_ne_zero (show 0 < 2 by omega)), b_rem _ _ _ (nat_ne_zero (show 0 < 3 by omega)), b_quo _ _ _ (nat_ne_zero (show 0 < 8 by omega)), b_quo _ _ _ (nat_ne_zero (show 0 < 2 by omega)), tmod_nat]))
      exact grownPut h0 h1 hs h h3 l i x k h2.nx _ R s w mk hS hx hi2 hk x1 xs hsk htb o23 (by omega) (by omega) (fun j hj => by rw [cs j hj, hr0]) ws _ (by simp only [B, xB, F, reduceLT, reduceLeDiff, reduceEqDiff, reduceAdd, reduceMul, reduceSub, ↓reduceIte, eq_self, t0]) (by simp only [B, xB, F, reduceLT, reduceLeDiff, reduceEqDiff, reduceAdd, reduceMul, reduceSub, ↓reduceIte, eq_self, t4]) (by simp only [B, xB, F, reduceLT, reduceLeDiff, reduceEqDiff, reduceAdd, reduceMul, reduceSub, ↓reduceIte, eq_self, t5]) (by simp only [B, xB, F, reduceLT, reduceLeDiff, reduceEqDiff, reduceAdd, reduceMul, reduceSub, ↓reduceIte, eq_self, t6]) (by simp only [B, xB, F, reduceLT, reduceLeDiff, reduceEqDiff, reduceAdd, reduceMul, reduceSub, ↓reduceIte, eq_self, t7]) (by simp only [B, xB, F, reduceLT, reduceLeDiff, reduceEqDiff, reduceAdd, reduceMul, reduceSub, ↓reduceIte, eq_self, t8]) (by simp only [B, xB, F, reduceLT, reduceLeDiff, reduceEqDiff, reduceAdd, reduceMul, reduceSub, ↓reduceIte, eq_self, t9]) (by simp only [B, xB, F, reduceLT, reduceLeDiff, reduceEqDiff, reduceAdd, reduceMul, reduceSub, ↓reduceIte, eq_self]) K hK
  | false =>
    have htb : tombB (growA l i) x = false := by unfold tombB; rw [q3]; rfl
    repeat' (first | (with_reducible refine stopP ?_) | ((with_reducible refine st1 ?_); (conv => whnf); (with_reducible refine ⟨?_⟩)) | ((with_reducible refine retW_intro rfl ?_); (conv => arg 2; whnf)) | ((with_reducible first | refine iB ?_ ?_ | refine gWt ?_ ?_ | refine gWf ?_ ?_) <;> intro hb <;> (try simp only [hb])) | (simp only [B, xB, F, reduceLT, reduceLeDiff, reduceEqDiff, reduceAdd, reduceMul, reduceSub, ↓reduceIte, eq_self, t0, t4, t5, t6, t7, t8, t9, lt1, e1, e2, e3, e4, e5, e6, ← h2e, cb, ← h3e', p3, c73, i7, i6, q3, Nat.mul_one, b_rem _ _ _ (nat_ne_zero (show 0 < 8 by omega)), b_rem _ _ _ (nat_ne_zero (show 0 < 2 by omega)), b_rem _ _ _ (nat_ne_zero (show 0 < 3 by omega)), b_quo _ _ _ (nat_ne_zero (show 0 < 8 by omega)), b_quo _ _ _ (nat_ne_zero (show 0 < 2 by omega)), tmod_nat]))
    exact grownPut h0 h1 hs h h3 l i x k h2.nx _ R s w mk hS hx hi2 hk x1 xs hsk htb o23 (by omega) (by omega) (fun j hj => by rw [cs j hj, hr0]) ws _ (by simp only [B, xB, F, reduceLT, reduceLeDiff, reduceEqDiff, reduceAdd, reduceMul, reduceSub, ↓reduceIte, eq_self, t0]) (by simp only [B, xB, F, reduceLT, reduceLeDiff, reduceEqDiff, reduceAdd, reduceMul, reduceSub, ↓reduceIte, eq_self, t4]) (by simp only [B, xB, F, reduceLT, reduceLeDiff, reduceEqDiff, reduceAdd, reduceMul, reduceSub, ↓reduceIte, eq_self, t5]) (by simp only [B, xB, F, reduceLT, reduceLeDiff, reduceEqDiff, reduceAdd, reduceMul, reduceSub, ↓reduceIte, eq_self, t6]) (by simp only [B, xB, F, reduceLT, reduceLeDiff, reduceEqDiff, reduceAdd, reduceMul, reduceSub, ↓reduceIte, eq_self, t7]) (by simp only [B, xB, F, reduceLT, reduceLeDiff, reduceEqDiff, reduceAdd, reduceMul, reduceSub, ↓reduceIte, eq_self, t8]) (by simp only [B, xB, F, reduceLT, reduceLeDiff, reduceEqDiff, reduceAdd, reduceMul, reduceSub, ↓reduceIte, eq_self, t9]) (by simp only [B, xB, F, reduceLT, reduceLeDiff, reduceEqDiff, reduceAdd, reduceMul, reduceSub, ↓reduceIte, eq_self]) K hK
end
end Go.Proofs.Ytlkngpckibidlaa.X

namespace Go.Proofs.Ytlkngpckibidlaa.X
open Go Go.AX
noncomputable section
set_option maxRecDepth 100000
theorem grownC (h0 : H) (vl : AV) (l : List Nat) (sl : SliceAt h0 vl l.length (W.u8s l)) (hb : ∀ n, n ∈ l → n < 256) : PushC P (.enter 26 [vl] h0) (PostGrown h0 l) := by
  have hlen := sl.len (P := P) u22
  have ho := W.SliceAt.one sl
  refine pushC_of_codeW (fn := Try.f26) (c := bodyC Try.f26) Try.func26 rfl ?_
  show codeW P 26 123 none _ _ _ _ _
  refine codeW_root ?_
  repeat' (first | ((with_reducible refine st1 ?_); (conv => whnf); (with_reducible refine ⟨?_⟩)) | ((with_reducible refine retW_intro rfl ?_); (conv => arg 2; whnf)) | ((with_reducible first | refine iB ?_ ?_ | refine gWt ?_ ?_ | refine gWf ?_ ?_) <;> intro hb <;> (try simp only [hb])) | (simp only [B, xB, F, reduceLT, reduceLeDiff, reduceEqDiff, reduceAdd, reduceMul, reduceSub, ↓reduceIte, eq_self]))
  refine ((newC h0).call P).mono P ?_
  rintro v h1 ⟨rfl, o1, -, hx1⟩
  have hx1 := hx1 (fun _ => True) (fun _ _ => trivial)
  obtain ⟨hs, hse⟩ : ∃ hs, hs = (h1.newCells 104 (repl [.int .u64 (.ofNat 0)] 8)).newCells 104 (repl [.int .u64 (.ofNat 0)] 8) := ⟨_, rfl⟩
  have hse' := hse
  simp only [repl, List.append_nil, List.cons_append, List.nil_append] at hse'
  repeat' (first | ((with_reducible refine st1 ?_); (conv => whnf); (with_reducible refine ⟨?_⟩)) | ((with_reducible refine retW_intro rfl ?_); (conv => arg 2; whnf)) | ((with_reducible first | refine iB ?_ ?_ | refine gWt ?_ ?_ | refine gWf ?_ ?_) <;> intro hb <;> (try simp only [hb])) | (simp only [B, xB, F, reduceLT, reduceLeDiff, reduceEqDiff, reduceAdd, reduceMul, reduceSub, ↓reduceIte, eq_self, ← hse']))
  clear hse'
  have os : Only h1 hs [] := by rw [hse]; exact ((Only.refl _ _).new _ _).new _ _
  have xs : hs.nx = h1.nx + 2 := by rw [hse]; rfl
  have x1 := o1.1
  have hlt1 := hx1.ix.lt
  have w6 : wrAt hs h1.nx = true := by rw [hse, wrAt_new, nx_new, if_neg (by omega), wrAt_new, if_pos rfl]
  have w7 : wrAt hs (h1.nx + 1) = true := by rw [hse, wrAt_new, nx_new, if_pos rfl]
  have rp : ∀ k, k < 8 → (repl [AV.int .u64 (.ofNat 0)] 8)[k]? = some (.int .u64 (.ofNat 0)) := fun k hk => by
    match k, hk with
    | 0, _ => rfl
    | 1, _ => rfl
    | 2, _ => rfl
    | 3, _ => rfl
    | 4, _ => rfl
    | 5, _ => rfl
    | 6, _ => rfl
    | 7, _ => rfl
  have c6 : arr8 hs h1.nx (fun _ => 0) := fun k hk => by rw [hse, cellAt_new, nx_new, if_neg (by omega), cellAt_new, if_pos rfl]; exact rp k hk
  have c7 : arr8 hs (h1.nx + 1) (nthK []) := fun k hk => by rw [hse, cellAt_new, nx_new, if_pos rfl]; exact rp k hk
  refine st_loop (fun n ds tm h => ∃ i R s w mk, GwI h0 hs vl l h0.nx h1.nx n ds tm h i R s w mk) 60 rfl ⟨0, [], .nilslice, .nilslice, fun _ => 0, rfl, rfl, ⟨Nat.zero_le _, Nat.zero_le _⟩, by simp only [B, xB, F, reduceLT, reduceLeDiff, reduceEqDiff, reduceAdd, reduceMul, reduceSub, ↓reduceIte, eq_self], by simp only [B, xB, F, reduceLT, reduceLeDiff, reduceEqDiff, reduceAdd, reduceMul, reduceSub, ↓reduceIte, eq_self], by simp only [B, xB, F, reduceLT, reduceLeDiff, reduceEqDiff, reduceAdd, reduceMul, reduceSub, ↓reduceIte, eq_self], by simp only [B, xB, F, reduceLT, reduceLeDiff, reduceEqDiff, reduceAdd, reduceMul, reduceSub, ↓reduceIte, eq_self], by simp only [B, xB, F, reduceLT, reduceLeDiff, reduceEqDiff, reduceAdd, reduceMul, reduceSub, ↓reduceIte, eq_self], by simp only [B, xB, F, reduceLT, reduceLeDiff, reduceEqDiff, reduceAdd, reduceMul, reduceSub, ↓reduceIte, eq_self], ⟨o1.t os, Nat.le_refl _, (hx1.keep os).floor (fun c hc => ⟨hc, fun e => by cases e⟩), (fun c e => by cases e), .none, Mdl.nil, GrI.nil l, (fun k _ h => absurd h (Nat.lt_irrefl 0)), c6, c7, w6, w7⟩⟩ (fun n ds tm h hI => ?_)
  clear c6 c7 w6 w7 rp
  obtain ⟨i, R, s, w, mk, rfl, rfl, ii, t0, t4, t5, t6, t7, t8, ⟨oo, xx, ix, bs, gr, md, gi, m6, c6, c7, w6, w7⟩⟩ := hI
  have gw1 := gr.one
  by_cases hi : i < l.length
  · have d1 : decide (i < l.length) = true := decide_eq_true hi
    by_cases hi2 : i < 60
    · have d2 : decide (i < 60) = true := decide_eq_true hi2
      have lt1 : (i < l.length) = True := by simp [hi]
      obtain ⟨x, hx⟩ : ∃ x, l[i]? = some x := ⟨_, List.getElem?_eq_getElem hi⟩
      have hxb : x < 256 := hb x (List.mem_of_getElem? hx)
      have hx8 : x % 8 < 8 := Nat.mod_lt _ (by omega)
      obtain ⟨bl, o, cap, rfl, hbl, hcells⟩ := sl.place (by omega)
      have hcell := fun j y (hy : l[j]? = some y) => by
        have := hcells j (by rw [W.u8s, List.length_map]; exact (List.getElem?_eq_some_iff.1 hy).1)
        rw [W.u8s, List.getElem?_map, hy] at this
        exact W.kcell this oo hbl (by simp)
      have p0 := hcell i x hx
      simp only [Option.map_some] at p0
      have w1 : wrapF .i64 (Int.ofNat i + Int.ofNat 1) = Int.ofNat (i + 1) := i64_add (by omega)
      have cont : ∀ tm' : T AV, skipB l i x = false → tm'.get 0 = some (.slice bl o l.length cap) → tm'.get 4 = some (.ptr h0.nx 0) → tm'.get 5 = some w → tm'.get 6 = some (.ptr h1.nx 0) → tm'.get 7 = some (.ptr (h1.nx + 1) 0) → tm'.get 8 = some (.int .i64 (.ofNat i)) → tm'.get 9 = some (.int .u8 (.ofNat (x % 8))) →
          codeW P 26 123 none (codeI (bodyC Try.f26) [1, 1, 0, 0, 1, 0, 0, 1, 0, 1, 1, 1, 1, 1]) [] tm' h (blkK 1 (seqK (codeK P 26 123 none (codeI (bodyC Try.f26) [1, 1, 0, 0, 1, 0, 1, 1, 1, 1, 1])
            (loopK (fun n ds tm h => ∃ i R s w mk, GwI h0 hs (AV.slice bl o l.length cap) l h0.nx h1.nx n ds tm h i R s w mk) (60 - i) (blkK 0 (seqK (codeK P 26 123 none (codeI (bodyC Try.f26) [1, 1, 1, 1, 1, 1]) (retK P Try.f26 (PostGrown h0 l))) (retK P Try.f26 (PostGrown h0 l))))))
            (loopK (fun n ds tm h => ∃ i R s w mk, GwI h0 hs (AV.slice bl o l.length cap) l h0.nx h1.nx n ds tm h i R s w mk) (60 - i) (blkK 0 (seqK (codeK P 26 123 none (codeI (bodyC Try.f26) [1, 1, 1, 1, 1, 1]) (retK P Try.f26 (PostGrown h0 l))) (retK P Try.f26 (PostGrown h0 l))))))) := by
        intro tm' hsk t0 t4 t5 t6 t7 t8 t9
        refine grownStep h0 h1 hs h l i x bl o cap R s w mk ⟨oo, xx, ix, bs, gr, md, gi, m6, c6, c7, w6, w7⟩ hx hi2 hxb hbl hlt1 xs p0 tm' hsk t0 t4 t5 t6 t7 t8 t9 _ ?_
        clear t0 t4 t5 t6 t7 t8 t9
        intro tm2 h2 R2 s2 w2 mk2 t0 t4 t5 t6 t7 t8 st
        repeat' (first | ((with_reducible refine st1 ?_); (conv => whnf); (with_reducible refine ⟨?_⟩)) | ((with_reducible refine retW_intro rfl ?_); (conv => arg 2; whnf)) | ((with_reducible first | refine iB ?_ ?_ | refine gWt ?_ ?_ | refine gWf ?_ ?_) <;> intro hb <;> (try simp only [hb])) | (simp only [B, xB, F, reduceLT, reduceLeDiff, reduceEqDiff, reduceAdd, reduceMul, reduceSub, ↓reduceIte, eq_self, t8, w1]))
        exact ⟨60 - (i + 1), by omega, i + 1, R2, s2, w2, mk2, rfl, rfl, by omega, by simp only [B, xB, F, reduceLT, reduceLeDiff, reduceEqDiff, reduceAdd, reduceMul, reduceSub, ↓reduceIte, eq_self, t0], by simp only [B, xB, F, reduceLT, reduceLeDiff, reduceEqDiff, reduceAdd, reduceMul, reduceSub, ↓reduceIte, eq_self, t4], by simp only [B, xB, F, reduceLT, reduceLeDiff, reduceEqDiff, reduceAdd, reduceMul, reduceSub, ↓reduceIte, eq_self, t5], by simp only [B, xB, F, reduceLT, reduceLeDiff, reduceEqDiff, reduceAdd, reduceMul, reduceSub, ↓reduceIte, eq_self, t6], by simp only [B, xB, F, reduceLT, reduceLeDiff, reduceEqDiff, reduceAdd, reduceMul, reduceSub, ↓reduceIte, eq_self, t7], by simp only [B, xB, F, reduceLT, reduceLeDiff, reduceEqDiff, reduceAdd, reduceMul, reduceSub, ↓reduceIte, eq_self], st⟩
      cases q1 : decide (i % 2 = 1) with
      | false =>
        have hsk : skipB l i x = false := by unfold skipB; rw [q1]; rfl
        repeat' (first | (with_reducible refine stop26 ?_) | ((with_reducible refine st1 ?_); (conv => whnf); (with_reducible refine ⟨?_⟩)) | ((with_reducible refine retW_intro rfl ?_); (conv => arg 2; whnf)) | ((with_reducible first | refine iB ?_ ?_ | refine gWt ?_ ?_ | refine gWf ?_ ?_) <;> intro hb <;> (try simp only [hb])) | (simp only [B, xB, F, reduceLT, reduceLeDiff, reduceEqDiff, reduceAdd, reduceMul, reduceSub, ↓reduceIte, eq_self, t0, t4, t5, t6, t7, t8, hlen, d1, d2, lt1, p0, q1, Nat.mul_one, b_rem _ _ _ (nat_ne_zero (show 0 < 8 by omega)), b_rem _ _ _ (nat_ne_zero (show 0 < 2 by omega)), tmod_nat]))
        exact cont _ hsk (by simp only [B, xB, F, reduceLT, reduceLeDiff, reduceEqDiff, reduceAdd, reduceMul, reduceSub, ↓reduceIte, eq_self, t0]) (by simp only [B, xB, F, reduceLT, reduceLeDiff, reduceEqDiff, reduceAdd, reduceMul, reduceSub, ↓reduceIte, eq_self, t4]) (by simp only [B, xB, F, reduceLT, reduceLeDiff, reduceEqDiff, reduceAdd, reduceMul, reduceSub, ↓reduceIte, eq_self, t5]) (by simp only [B, xB, F, reduceLT, reduceLeDiff, reduceEqDiff, reduceAdd, reduceMul, reduceSub, ↓reduceIte, eq_self, t6]) (by simp only [B, xB, F, reduceLT, reduceLeDiff, reduceEqDiff, reduceAdd, reduceMul, reduceSub, ↓reduceIte, eq_self, t7]) (by simp only [B, xB, F, reduceLT, reduceLeDiff, reduceEqDiff, reduceAdd, reduceMul, reduceSub, ↓reduceIte, eq_self, t8]) (by simp only [B, xB, F, reduceLT, reduceLeDiff, reduceEqDiff, reduceAdd, reduceMul, reduceSub, ↓reduceIte, eq_self])
      | true =>
        have hi1 : i % 2 = 1 := of_decide_eq_true q1
        have lt2 : (i - 1 < l.length) = True := by simp; omega
        obtain ⟨y, hy⟩ : ∃ y, l[i - 1]? = some y := ⟨_, List.getElem?_eq_getElem (by omega)⟩
        have p1 := hcell (i - 1) y hy
        simp only [Option.map_some] at p1
        have w2 : wrapF .i64 (Int.ofNat i - Int.ofNat 1) = Int.ofNat (i - 1) := i64_sub (by omega) (by omega)
        cases q2 : decide (y % 8 = x % 8) with
        | false =>
          have hsk : skipB l i x = false := by unfold skipB; rw [hy, q1]; exact q2
          repeat' (first | (with_reducible refine stop26 ?_) | ((with_reducible refine st1 ?_); (conv => whnf); (with_reducible refine ⟨?_⟩)) | ((with_reducible refine retW_intro rfl ?_); (conv => arg 2; whnf)) | ((with_reducible first | refine iB ?_ ?_ | refine gWt ?_ ?_ | refine gWf ?_ ?_) <;> intro hb <;> (try simp only [hb])) | (simp only [B, xB, F, reduceLT, reduceLeDiff, reduceEqDiff, reduceAdd, reduceMul, reduceSub, ↓reduceIte, eq_self, t0, t4, t5, t6, t7, t8, hlen, d1, d2, lt1, lt2, p0, p1, q1, q2, w2, Nat.mul_one, b_rem _ _ _ (nat_ne_zero (show 0 < 8 by omega)), b_rem _ _ _ (nat_ne_zero (show 0 < 2 by omega)), tmod_nat]))
          exact cont _ hsk (by simp only [B, xB, F, reduceLT, reduceLeDiff, reduceEqDiff, reduceAdd, reduceMul, reduceSub, ↓reduceIte, eq_self, t0]) (by simp only [B, xB, F, reduceLT, reduceLeDiff, reduceEqDiff, reduceAdd, reduceMul, reduceSub, ↓reduceIte, eq_self, t4]) (by simp only [B, xB, F, reduceLT, reduceLeDiff, reduceEqDiff, reduceAdd, reduceMul, reduceSub, ↓reduceIte, eq_self, t5]) (by simp only [B, xB, F, reduceLT, reduceLeDiff, reduceEqDiff, reduceAdd, reduceMul, reduceSub, ↓reduceIte, eq_self, t6]) (by simp only [B, xB, F, reduceLT, reduceLeDiff, reduceEqDiff, reduceAdd, reduceMul, reduceSub, ↓reduceIte, eq_self, t7]) (by simp only [B, xB, F, reduceLT, reduceLeDiff, reduceEqDiff, reduceAdd, reduceMul, reduceSub, ↓reduceIte, eq_self, t8]) (by simp only [B, xB, F, reduceLT, reduceLeDiff, reduceEqDiff, reduceAdd, reduceMul, reduceSub, ↓reduceIte, eq_self])
        | true =>
          have hsk : skipB l i x = true := by unfold skipB; rw [hy, q1]; exact q2
          have hgs : growA l (i + 1) = growA l i := by rw [growA_succ hx, if_pos hsk]
          repeat' (first | ((with_reducible refine st1 ?_); (conv => whnf); (with_reducible refine ⟨?_⟩)) | ((with_reducible refine retW_intro rfl ?_); (conv => arg 2; whnf)) | ((with_reducible first | refine iB ?_ ?_ | refine gWt ?_ ?_ | refine gWf ?_ ?_) <;> intro hb <;> (try simp only [hb])) | (simp only [B, xB, F, reduceLT, reduceLeDiff, reduceEqDiff, reduceAdd, reduceMul, reduceSub, ↓reduceIte, eq_self, t0, t4, t5, t6, t7, t8, hlen, d1, d2, lt1, lt2, p0, p1, q1, q2, w1, w2, Nat.mul_one, b_rem _ _ _ (nat_ne_zero (show 0 < 8 by omega)), b_rem _ _ _ (nat_ne_zero (show 0 < 2 by omega)), tmod_nat]))
          refine ⟨60 - (i + 1), by omega, i + 1, R, s, w, mk, rfl, rfl, by omega, by simp only [B, xB, F, reduceLT, reduceLeDiff, reduceEqDiff, reduceAdd, reduceMul, reduceSub, ↓reduceIte, eq_self, t0], by simp only [B, xB, F, reduceLT, reduceLeDiff, reduceEqDiff, reduceAdd, reduceMul, reduceSub, ↓reduceIte, eq_self, t4], by simp only [B, xB, F, reduceLT, reduceLeDiff, reduceEqDiff, reduceAdd, reduceMul, reduceSub, ↓reduceIte, eq_self, t5], by simp only [B, xB, F, reduceLT, reduceLeDiff, reduceEqDiff, reduceAdd, reduceMul, reduceSub, ↓reduceIte, eq_self, t6], by simp only [B, xB, F, reduceLT, reduceLeDiff, reduceEqDiff, reduceAdd, reduceMul, reduceSub, ↓reduceIte, eq_self, t7], by simp only [B, xB, F, reduceLT, reduceLeDiff, reduceEqDiff, reduceAdd, reduceMul, reduceSub, ↓reduceIte, eq_self], oo, xx, ix, bs, ?_, ?_, ?_, ?_, c6, ?_, w6, w7⟩
          all_goals rw [hgs]
          · exact gr
          · exact md
          · exact gi.skip hi1
          · exact m6
          · exact c7
    · have d2 : decide (i < 60) = false := decide_eq_false hi2
      obtain rfl : i = 60 := by omega
      have hmin : min 60 l.length = 60 := by omega
      repeat' (first | ((with_reducible refine st1 ?_); (conv => whnf); (with_reducible refine ⟨?_⟩)) | ((with_reducible refine retW_intro rfl ?_); (conv => arg 2; whnf)) | ((with_reducible first | refine iB ?_ ?_ | refine gWt ?_ ?_ | refine gWf ?_ ?_) <;> intro hb <;> (try simp only [hb])) | (simp only [B, xB, F, reduceLT, reduceLeDiff, reduceEqDiff, reduceAdd, reduceMul, reduceSub, ↓reduceIte, eq_self, t0, t4, t5, t6, t7, t8, hlen, d1, d2, gw1]))
      refine ⟨h0.nx, w, R, s, hs.nx, rfl, oo, Nat.le_refl _, by omega, ix, bs, ?_⟩
      rw [hmin]
      exact ⟨gr, md, gi⟩
  · have d1 : decide (i < l.length) = false := decide_eq_false hi
    obtain rfl : i = l.length := by omega
    have hmin : min 60 l.length = l.length := by omega
    repeat' (first | ((with_reducible refine st1 ?_); (conv => whnf); (with_reducible refine ⟨?_⟩)) | ((with_reducible refine retW_intro rfl ?_); (conv => arg 2; whnf)) | ((with_reducible first | refine iB ?_ ?_ | refine gWt ?_ ?_ | refine gWf ?_ ?_) <;> intro hb <;> (try simp only [hb])) | (simp only [B, xB, F, reduceLT, reduceLeDiff, reduceEqDiff, reduceAdd, reduceMul, reduceSub, ↓reduceIte, eq_self, t0, t4, t5, t6, t7, t8, hlen, d1, gw1]))
    refine ⟨h0.nx, w, R, s, hs.nx, rfl, oo, Nat.le_refl _, by omega, ix, bs, ?_⟩
    rw [hmin]
    exact ⟨gr, md, gi⟩
end
end Go.Proofs.Ytlkngpckibidlaa.X

namespace Go.Proofs.Ytlkngpckibidlaa.X
open Go Go.AX
noncomputable section
set_option maxRecDepth 100000
theorem mem_take_succ {l : List W.Rv} {j : Nat} {y r : W.Rv} (hy : l[j]? = some y) : decide (r ∈ l.take (j + 1)) = (decide (r ∈ l.take j) || decide (y = r)) := by
  rw [List.take_add_one, hy]
  by_cases q : r ∈ l.take j
  · simp [q]
  · by_cases e : y = r
    · simp [q, e]
    · simp [q, e, Ne.symm e]
end
end Go.Proofs.Ytlkngpckibidlaa.X

namespace Go.Proofs.Ytlkngpckibidlaa.X
open Go Go.AX
noncomputable section
theorem good_take {A : List W.Ch} (h : W.Good A) (k : Nat) : W.Good (A.take k) :=
  ⟨fun c l e => by
    cases A with
    | nil => simp at e
    | cons d A =>
      cases k with
      | zero => simp at e
      | succ k => simp at e; rw [← e.1]; exact h.hd d A rfl,
   fun c hc => h.ok c (List.mem_of_mem_take hc),
   fun i a b ha hb => by
    rw [List.getElem?_take] at ha hb
    split at ha
    · split at hb
      · exact h.ln i a b ha hb
      · cases hb
    · cases ha⟩
theorem good_mid {X B Z : List W.Ch} (h : W.Good (X ++ B ++ Z)) (hd : ∀ c l, B = c :: l → c.tomb = false) : W.Good B := by
  have h1 := good_take h (X ++ B).length
  rw [List.take_left] at h1
  have h2 := h1.drop X.length (fun c hc => ?_)
  · rwa [List.drop_left] at h2
  · rw [List.getElem?_append_right (Nat.le_refl _), Nat.sub_self] at hc
    cases B with
    | nil => simp at hc
    | cons d l => simp at hc; subst hc; exact hd d l rfl
def Gone (C : List W.Ch) (m : Nat) (X : List W.Ch) : Prop := ∀ c, c ∈ X → c.rev.1 ≤ m ∧ c ∉ W.isK C m
theorem gone_isK {X Y : List W.Ch} {low m : Nat} (hg : Gone (X ++ Y) low X) (hm : low ≤ m) : W.isK Y m = W.isK (X ++ Y) m := by
  have hX : ∀ c, c ∈ X → c.rev.1 ≤ m := fun c hc => Nat.le_trans (hg c hc).1 hm
  rw [W.isK_split hX]
  cases q : W.lst (W.atP m) Y with
  | some d => unfold W.isK; rw [q]
  | none =>
    have e1 : W.isK Y m = [] := by unfold W.isK; rw [q]
    rw [e1]; simp only
    cases e : W.headK X with
    | nil => rfl
    | cons c l =>
      exfalso
      have hc : c ∈ W.headK X := by rw [e]; simp
      refine (hg c (W.headK_mem hc).1).2 ?_
      rw [W.isK_split (fun c hc => (hg c hc).1)]
      have q2 : W.lst (W.atP low) Y = none := by
        unfold W.lst at q ⊢
        rw [List.getLast?_eq_none_iff, List.filter_eq_nil_iff] at q ⊢
        intro d hd h
        refine q d hd ?_
        unfold W.atP at h ⊢; simp at h ⊢; omega
      rw [q2]; exact hc
theorem gone_comp {X Y : List W.Ch} {low : Nat} (hg : Gone (X ++ Y) low X) : W.compA Y low = W.compA (X ++ Y) low := by
  rw [W.compA_isK, W.compA_isK, gone_isK hg (Nat.le_refl _), List.filter_append, W.filter_none (l := X) (fun c hc => decide_eq_false (by have := (hg c hc).1; omega)), List.nil_append]
theorem isK_top {C : List W.Ch} (hr : W.Rising C) {m : Nat} {c d : W.Ch} (hc : c ∈ W.isK C m) (hd : d ∈ C) (hm : d.rev.1 ≤ m) : d = c ∨ W.above c.rev d.rev = true := by
  unfold W.isK at hc
  split at hc
  · rename_i e he
    split at hc
    · cases hc
    · rw [List.mem_singleton] at hc; subst hc
      unfold W.lst at he
      exact W.last_rel he (List.Pairwise.filter _ hr) d (List.mem_filter.2 ⟨hd, decide_eq_true hm⟩)
  · cases hc
def RisesR (A : List Rc) : Prop := A.Pairwise fun a b => W.above b.rev a.rev = true
theorem recOf_rev (A : List Rc) (i x : Nat) : (recOf A i x).rev = (i / 2 + 2, i % 2) := by unfold recOf; split <;> rfl
theorem growA_none {l : List Nat} {i : Nat} (hx : l[i]? = none) : growA l (i + 1) = growA l i := by
  show (match l[i]? with | some x => _ | none => _) = _
  rw [hx]
theorem growA_rises (l : List Nat) : ∀ i, RisesR (growA l i) ∧ ∀ r, r ∈ growA l i → W.above (i / 2 + 2, i % 2) r.rev = true
  | 0 => ⟨List.Pairwise.nil, fun r hr => by cases hr⟩
  | i + 1 => by
    obtain ⟨h1, h2⟩ := growA_rises l i
    have hup : W.above ((i + 1) / 2 + 2, (i + 1) % 2) (i / 2 + 2, i % 2) = true := by
      simp only [W.above, Bool.or_eq_true, Bool.and_eq_true, decide_eq_true_eq]; omega
    have h3 : ∀ r, r ∈ growA l i → W.above ((i + 1) / 2 + 2, (i + 1) % 2) r.rev = true := fun r hr => W.above_trans hup (h2 r hr)
    cases hx : l[i]? with
    | none => rw [growA_none hx]; exact ⟨h1, h3⟩
    | some x =>
      rw [growA_succ hx]
      split
      · exact ⟨h1, h3⟩
      · refine ⟨?_, fun r hr => ?_⟩
        · unfold RisesR; rw [List.pairwise_append]
          exact ⟨h1, List.pairwise_singleton _ _, fun a ha b hb => by rw [List.mem_singleton] at hb; subst hb; rw [recOf_rev]; exact h2 a ha⟩
        · rcases List.mem_append.1 hr with q | q
          · exact h3 r q
          · rw [List.mem_singleton] at q; subst q; rw [recOf_rev]; exact hup
theorem rises_inj : ∀ {A : List Rc}, RisesR A → ∀ {r s : Rc}, r ∈ A → s ∈ A → r.rev = s.rev → r = s
  | [], _, _, _, hr, _, _ => by cases hr
  | a :: A, h, r, s, hr, hs, e => by
    unfold RisesR at h; rw [List.pairwise_cons] at h
    rcases List.mem_cons.1 hr with q1 | hr'
    · rcases List.mem_cons.1 hs with q2 | hs'
      · rw [q1, q2]
      · have := h.1 s hs'; rw [← q1, ← e, W.above_irrefl] at this; cases this
    · rcases List.mem_cons.1 hs with q2 | hs'
      · have := h.1 r hr'; rw [← q2, e, W.above_irrefl] at this; cases this
      · exact rises_inj (A := A) h.2 hr' hs' e
structure KeptOf (A : List Rc) (m : Nat) (K : List W.Rv) : Prop where
  io : ∀ rv, rv ∈ K ↔ ∃ q, q < 8 ∧ ∃ c, c ∈ W.isK (chK A q) m ∧ c.rev = rv
theorem kept_of {A : List Rc} {m : Nat} {R : List Pr} (hf : Fits A m R) : KeptOf A m (keptL m R) := by
  refine ⟨fun rv => ?_⟩
  unfold keptL modsL
  rw [List.mem_mergeSort, hf.it_, List.mem_map]
  constructor
  · rintro ⟨x, hx, rfl⟩
    unfold gL at hx
    obtain ⟨q, hq, e⟩ := List.mem_filterMap.1 hx
    unfold gI at e
    split at e
    · rename_i hi
      cases e
      exact ⟨q, List.mem_range.1 hq, toCh (outF (kk q) m A), by rw [isK_chK, if_pos hi]; simp, rfl⟩
    · cases e
  · rintro ⟨q, hq, c, hc, rfl⟩
    rw [isK_chK] at hc
    split at hc
    · rename_i hi
      rw [List.mem_singleton] at hc; subst hc
      refine ⟨⟨kk q, (outF (kk q) m A).rev, (outF (kk q) m A).create, (outF (kk q) m A).version⟩, ?_, rfl⟩
      unfold gL
      exact List.mem_filterMap.2 ⟨q, List.mem_range.2 hq, by unfold gI; rw [hi]; rfl⟩
    · cases hc
def stB (m : Nat) (K : List W.Rv) (rv : W.Rv) : Bool := decide (m < rv.1) || decide (rv ∈ K)
theorem st_no {A : List Rc} {m : Nat} {K : List W.Rv} (hK : KeptOf A m K) {c : W.Ch} (h : stB m K c.rev = false) : c.rev.1 ≤ m ∧ ∀ k, k < 8 → c ∉ W.isK (chK A k) m := by
  unfold stB at h
  simp only [Bool.or_eq_false_iff, decide_eq_false_iff_not] at h
  exact ⟨by omega, fun k hk hc => h.2 ((hK.io _).2 ⟨k, hk, c, hc, rfl⟩)⟩
theorem st_le {A : List Rc} {m : Nat} {K : List W.Rv} (hK : KeptOf A m K) (hA : RisesR A) {c : W.Ch} {k : Nat} (hc : c ∈ chK A k) (h : stB m K c.rev = true) (hm : c.rev.1 ≤ m) : c ∈ W.isK (chK A k) m := by
  unfold stB at h
  rw [decide_eq_false (by omega), Bool.false_or, decide_eq_true_eq] at h
  obtain ⟨q, hq, c', hc', e⟩ := (hK.io _).1 h
  obtain ⟨r', hr', hk', rfl⟩ := chK_mem (W.isK_mem hc').1
  obtain ⟨r, hr, hk, rfl⟩ := chK_mem hc
  have := rises_inj hA hr' hr e
  subst this
  have := kk_inj (hk'.symm.trans hk)
  subst this
  exact hc'
theorem chK_append (A B : List Rc) (k : Nat) : chK (A ++ B) k = chK A k ++ chK B k := by unfold chK; rw [List.filter_append, List.map_append]
theorem chK_at {A : List Rc} {i k : Nat} {r : Rc} (hr : A[i]? = some r) (hk : r.key = kk k) : ∃ Z, chK A k = chK (A.take i) k ++ toCh r :: Z := by
  obtain ⟨hi, e⟩ := List.getElem?_eq_some_iff.1 hr
  have e2 : A = A.take i ++ r :: A.drop (i + 1) := (List.take_append_drop i A).symm.trans (by rw [List.drop_eq_getElem_cons hi, e])
  refine ⟨chK (A.drop (i + 1)) k, ?_⟩
  have e3 := congrArg (fun X => chK X k) e2
  rw [e3, chK_append]
  congr 1
  simp [chK, hk]
theorem chK_take {A : List Rc} {i : Nat} {r : Rc} (hr : A[i]? = some r) (k : Nat) : chK (A.take (i + 1)) k = if r.key = kk k then chK (A.take i) k ++ [toCh r] else chK (A.take i) k := by
  rw [List.take_add_one, hr]; exact chK_snoc _ _ _
structure RsI (A : List Rc) (m : Nat) (K : List W.Rv) (i left : Nat) (D : Nat → List W.Ch) : Prop where
  key : ∀ k, k < 8 → ∃ X, chK (A.take i) k = X ++ D k ∧ Gone (chK A k) m X ∧ ∀ c l, D k = c :: l → c.tomb = false
  lft : 0 < left → ∀ k, k < 8 → ∀ c, c ∈ D k → stB m K c.rev = true
theorem RsI.nil (A : List Rc) (m : Nat) (K : List W.Rv) (left : Nat) : RsI A m K 0 left (fun _ => []) :=
  ⟨fun k _ => ⟨[], rfl, (fun c hc => by cases hc), fun c l e => by cases e⟩, fun _ k _ c hc => by cases hc⟩
theorem RsI.drop {A : List Rc} {m : Nat} {K : List W.Rv} {i left : Nat} {D : Nat → List W.Ch} (h : RsI A m K i (left + 1) D) (hA : RisesR A) (hG : ∀ k, k < 8 → W.Good (chK A k)) (hK : KeptOf A m K) {r : Rc} (hr : A[i]? = some r) (hst : stB m K r.rev = false) : RsI A m K (i + 1) left D := by
  refine ⟨fun k hk => ?_, fun _ => h.lft (by omega)⟩
  obtain ⟨X, e, hg, hd⟩ := h.key k hk
  rw [chK_take hr]
  split
  · rename_i hkey
    obtain ⟨Z, hZ⟩ := chK_at hr hkey
    have hs : stB m K (toCh r).rev = false := hst
    obtain ⟨s1, s2⟩ := st_no hK hs
    have hri := (hG k hk).rising
    have hD : D k = [] := by
      cases q : D k with
      | nil => rfl
      | cons d l =>
        exfalso
        have hdm : d ∈ D k := by rw [q]; simp
        have hdt : d ∈ chK (A.take i) k := by rw [e]; exact List.mem_append_right _ hdm
        have hdA : d ∈ chK A k := by rw [hZ]; exact List.mem_append_left _ hdt
        have hab : W.above (toCh r).rev d.rev = true := by
          have h2 := hri
          unfold W.Rising at h2
          rw [hZ, List.pairwise_append] at h2
          exact h2.2.2 d hdt _ (by simp)
        have hle := W.above_le hab
        have hin := st_le hK hA hdA (h.lft (by omega) k hk d hdm) (by omega)
        rcases isK_top hri hin (d := toCh r) (by rw [hZ]; simp) s1 with q2 | q2
        · rw [q2, W.above_irrefl] at hab; cases hab
        · have := W.above_trans hab q2; rw [W.above_irrefl] at this; cases this
    refine ⟨X ++ [toCh r], by rw [e, hD]; simp, fun c hc => ?_, hd⟩
    rcases List.mem_append.1 hc with q | q
    · exact hg c q
    · rw [List.mem_singleton] at q; subst q; exact ⟨s1, s2 k hk⟩
  · exact ⟨X, e, hg, hd⟩
theorem RsI.put {A : List Rc} {m : Nat} {K : List W.Rv} {i left : Nat} {D : Nat → List W.Ch} (h : RsI A m K i left D) {r : Rc} (hr : A[i]? = some r) {k : Nat} (hkey : r.key = kk k) (hst : left = 0 ∨ stB m K r.rev = true) (ht : D k = [] → r.tomb = false) : RsI A m K (i + 1) left (fun j => if j = k then D k ++ [toCh r] else D j) := by
  refine ⟨fun j hj => ?_, fun hl j hj c hc => ?_⟩
  · obtain ⟨X, e, hg, hd⟩ := h.key j hj
    rw [chK_take hr]
    by_cases q : j = k
    · subst q
      refine ⟨X, by simp only [hkey, if_true, e]; rw [List.append_assoc], hg, fun c l e2 => ?_⟩
      simp only [if_true] at e2
      cases q2 : D j with
      | nil => rw [q2] at e2; simp at e2; rw [← e2.1]; exact ht q2
      | cons d l2 => rw [q2] at e2; simp at e2; rw [← e2.1]; exact hd d l2 q2
    · have hne : ¬ r.key = kk j := fun e2 => q (kk_inj (e2.symm.trans hkey))
      simp only [if_neg hne, if_neg q]
      exact ⟨X, e, hg, hd⟩
  · split at hc
    · rename_i q; subst q
      rcases List.mem_append.1 hc with q | q
      · exact h.lft hl j hj c q
      · rw [List.mem_singleton] at q; subst q
        rcases hst with q | q
        · omega
        · exact q
    · exact h.lft hl j hj c hc
theorem RsI.tomb {A : List Rc} {m : Nat} {K : List W.Rv} {i left : Nat} {D : Nat → List W.Ch} (h : RsI A m K i left D) (hG : ∀ k, k < 8 → W.Good (chK A k)) {r : Rc} (hr : A[i]? = some r) {k : Nat} (hkey : r.key = kk k) (hD : D k = []) (ht : r.tomb = true) : RsI A m K (i + 1) left D := by
  refine ⟨fun j hj => ?_, fun hl j hj c hc => h.lft hl j hj c hc⟩
  obtain ⟨X, e, hg, hd⟩ := h.key j hj
  rw [chK_take hr]
  split
  · rename_i hk2
    have hjk := kk_inj (hk2.symm.trans hkey)
    subst hjk
    obtain ⟨Z, hZ⟩ := chK_at hr hk2
    rw [e, hD, List.append_nil] at hZ
    have hgd := hG j hj
    have htc : (toCh r).tomb = true := ht
    refine ⟨X ++ [toCh r], by rw [e, hD]; simp, fun c hc => ?_, hd⟩
    rcases List.mem_append.1 hc with q | q
    · exact hg c q
    · rw [List.mem_singleton] at q; subst q
      refine ⟨?_, fun q => by have := (W.isK_mem q).2; rw [htc] at this; cases this⟩
      rcases W.list_last X with rfl | ⟨Y, p, rfl⟩
      · have := hgd.hd (toCh r) Z hZ; rw [htc] at this; cases this
      · have hl := hgd.ln Y.length p (toCh r) (by rw [hZ]; simp) (by rw [hZ]; simp)
        have hpt := hl.tb htc
        rcases Nat.lt_or_ge m (toCh r).rev.1 with q | q
        · exfalso
          have hp := hg p (by simp)
          refine hp.2 ?_
          have hri := hgd.rising
          rw [hZ]
          rw [W.isK_split (fun c hc => (hg c hc).1)]
          have hno : W.lst (W.atP m) (toCh r :: Z) = none := by
            unfold W.lst
            rw [List.getLast?_eq_none_iff, List.filter_eq_nil_iff]
            intro d hd2 h2
            unfold W.atP at h2
            have h2 := of_decide_eq_true h2
            rcases List.mem_cons.1 hd2 with q3 | q3
            · subst q3; omega
            · unfold W.Rising at hri
              rw [hZ, List.pairwise_append] at hri
              have := W.above_le ((List.pairwise_cons.1 hri.2.1).1 d q3)
              omega
          rw [hno]; simp [W.headK, hpt]
        · exact q
  · exact ⟨X, e, hg, hd⟩
theorem RsI.good {A : List Rc} {m : Nat} {K : List W.Rv} {i left : Nat} {D : Nat → List W.Ch} (h : RsI A m K i left D) (hG : ∀ k, k < 8 → W.Good (chK A k)) {k : Nat} (hk : k < 8) : W.Good (D k) := by
  obtain ⟨X, e, -, hd⟩ := h.key k hk
  have e2 : chK A k = X ++ D k ++ chK (A.drop i) k := by rw [← e, ← chK_append, List.take_append_drop]
  have := hG k hk
  rw [e2] at this
  exact good_mid this hd
theorem RsI.next {A : List Rc} {m : Nat} {K : List W.Rv} {i left : Nat} {D : Nat → List W.Ch} (h : RsI A m K i left D) (hG : ∀ k, k < 8 → W.Good (chK A k)) {r : Rc} (hr : A[i]? = some r) {k : Nat} (hk : k < 8) (hkey : r.key = kk k) (ht : D k = [] → r.tomb = false) : W.Good (D k ++ [toCh r]) := by
  obtain ⟨X, e, -, hd⟩ := h.key k hk
  obtain ⟨Z, hZ⟩ := chK_at hr hkey
  have e2 : chK A k = X ++ (D k ++ [toCh r]) ++ Z := by rw [hZ, e]; simp
  have := hG k hk
  rw [e2] at this
  refine good_mid this fun c l e3 => ?_
  cases q2 : D k with
  | nil => rw [q2] at e3; simp at e3; rw [← e3.1]; exact ht q2
  | cons d l2 => rw [q2] at e3; simp at e3; rw [← e3.1]; exact hd d l2 q2
theorem RsI.len {A : List Rc} {m : Nat} {K : List W.Rv} {i left : Nat} {D : Nat → List W.Ch} (h : RsI A m K i left D) {k : Nat} (hk : k < 8) : (D k).length ≤ A.length := by
  obtain ⟨X, e, -, -⟩ := h.key k hk
  have h1 := congrArg List.length e
  rw [List.length_append] at h1
  have h2 := chK_len (A.take i) k
  have h3 : (A.take i).length ≤ A.length := by rw [List.length_take]; exact Nat.min_le_right _ _
  omega
theorem RsI.isK {A : List Rc} {m : Nat} {K : List W.Rv} {left : Nat} {D : Nat → List W.Ch} (h : RsI A m K A.length left D) {k : Nat} (hk : k < 8) : (∀ n, m ≤ n → W.isK (D k) n = W.isK (chK A k) n) ∧ W.compA (D k) m = W.compA (chK A k) m := by
  obtain ⟨X, e, hg, -⟩ := h.key k hk
  rw [List.take_length] at e
  rw [e] at hg ⊢
  exact ⟨fun n hn => gone_isK hg hn, gone_comp hg⟩
theorem rest_step {R : List Pr} {D : Nat → List W.Ch} {r : Rc} {k : Nat} (hm : Mdl R D) (hk : k < 8) (hkey : r.key = kk k) (hg : W.Good (D k ++ [toCh r])) :
    (r.tomb = true → W.tombE (getL r.key R) r.rev = 0 ∧ W.all (W.tombP (getL r.key R) r.rev) = D k ++ [toCh r] ∧ W.WF (W.tombP (getL r.key R) r.rev)) ∧
    (r.tomb = false → W.restE (getL r.key R) r.rev r.create r.version = 0 ∧ W.all (W.restP (getL r.key R) r.rev r.create r.version) = D k ++ [toCh r] ∧ W.WF (W.restP (getL r.key R) r.rev r.create r.version)) := by
  have ha : W.all (getL r.key R) = (D k ++ [toCh r]).take (D k).length := by rw [List.take_left, hkey]; exact hm.al k hk
  have hb := W.back_step hg (i := (D k).length) (c := toCh r) (by simp) (hm.wfg r.key) ha
  have et : (D k ++ [toCh r]).take ((D k).length + 1) = D k ++ [toCh r] := by rw [List.take_of_length_le (by simp)]
  rw [et] at hb
  refine ⟨fun ht => ?_, fun ht => ?_⟩
  · obtain ⟨b1, b2, b3, b4⟩ := hb.1 ht
    have b2' : W.tombP (getL r.key R) r.rev = W.tombL (getL r.key R) r.rev := b2
    rw [b2']; exact ⟨b1, b3, b4⟩
  · obtain ⟨b1, b2, b3, b4⟩ := hb.2 ht
    have b2' : W.restP (getL r.key R) r.rev r.create r.version = W.putL (getL r.key R) r.rev r.create r.version := b2
    rw [b2']; exact ⟨b1, b3, b4⟩
theorem tomb_none {R : List Pr} {D : Nat → List W.Ch} {r : Rc} {k : Nat} (hm : Mdl R D) (hk : k < 8) (hkey : r.key = kk k) (hD : D k = []) (h0 : 0 < r.rev.1) : W.tombE (getL r.key R) r.rev = 5 := by
  have ha : W.all (getL r.key R) = [] := by rw [hkey, hm.al k hk, hD]
  have hL : getL r.key R = [] := by
    have := W.empty_all (hm.wfg r.key)
    rw [ha] at this
    exact List.isEmpty_iff.1 this
  rw [hL]
  unfold W.tombE
  have hf : W.fitsB [] r.rev = true := by rw [W.fits_all]; unfold W.fitA; simp [W.all, h0]
  rw [hf]; rfl
end
end Go.Proofs.Ytlkngpckibidlaa.X

namespace Go.Proofs.Ytlkngpckibidlaa.X
open Go Go.AX
noncomputable section
set_option maxRecDepth 100000
structure KyI (hs : H) (bx b2 : Nat) (n : Nat) (ds : List Nat) (tm : T AV) (h : H) (i : Nat) : Prop where
  ds : ds = []
  nn : n = 8 - i
  ii : i ≤ 8
  t7 : tm.get 7 = some (.ptr bx 0)
  t12 : tm.get 12 = some (.ptr b2 0)
  t18 : tm.get 18 = some (.int .i64 (.ofNat i))
  oo : Only hs h []
structure KzI (h5 : H) (bx b2 i : Nat) (va vb : AV) (l : List W.Rv) (n : Nat) (ds : List Nat) (tm : T AV) (h : H) (j : Nat) : Prop where
  ds : ds = []
  nn : n = l.length - j
  jj : j ≤ l.length
  t7 : tm.get 7 = some (.ptr bx 0)
  t12 : tm.get 12 = some (.ptr b2 0)
  t18 : tm.get 18 = some (.int .i64 (.ofNat i))
  t20 : tm.get 20 = some va
  t21 : tm.get 21 = some vb
  t22 : tm.get 22 = some (.int .i64 (.ofNat j))
  hh : h = h5
theorem keysLoop {N1 N2 : Nat → Prop} (hs : H) (bx b2 : Nat) (Rx Ry : List Pr) (sx sy : AV) (D : Nat → List W.Ch) (ix : IxR N1 hs bx Rx sx) (iy : IxR N2 hs b2 Ry sy) (mx : Mdl Rx D) (my : Mdl Ry D) (tm : T AV) (t7 : tm.get 7 = some (.ptr bx 0)) (t12 : tm.get 12 = some (.ptr b2 0)) (K : KQ)
    (hK : ∀ tm2 h2, Only hs h2 [] → tm2.get 7 = some (.ptr bx 0) → tm2.get 12 = some (.ptr b2 0) → K .norm [] tm2 h2) :
    codeW P 10 158 none (codeI (bodyC Try.f10) [0, 1, 1, 1, 1, 1, 1, 1, 1, 1, 1, 1, 1, 1]) [] tm hs K := by
  repeat' (first | ((with_reducible refine st1 ?_); (conv => whnf); (with_reducible refine ⟨?_⟩)) | ((with_reducible refine retW_intro rfl ?_); (conv => arg 2; whnf)) | ((with_reducible first | refine iB ?_ ?_ | refine gWt ?_ ?_ | refine gWf ?_ ?_) <;> intro hb <;> (try simp only [hb])) | (simp only [B, xB, F, reduceLT, reduceLeDiff, reduceEqDiff, reduceAdd, reduceMul, reduceSub, ↓reduceIte, eq_self, t7, t12]))
  refine st_loop (fun n ds t h => ∃ i, KyI hs bx b2 n ds t h i) 8 rfl ⟨0, rfl, rfl, Nat.zero_le _, by simp only [B, xB, F, reduceLT, reduceLeDiff, reduceEqDiff, reduceAdd, reduceMul, reduceSub, ↓reduceIte, eq_self, t7], by simp only [B, xB, F, reduceLT, reduceLeDiff, reduceEqDiff, reduceAdd, reduceMul, reduceSub, ↓reduceIte, eq_self, t12], by simp only [B, xB, F, reduceLT, reduceLeDiff, reduceEqDiff, reduceAdd, reduceMul, reduceSub, ↓reduceIte, eq_self], Only.refl _ _⟩ (fun n ds t h hI => ?_)
  clear t7 t12
  obtain ⟨i, rfl, rfl, ii, t7, t12, t18, oo⟩ := hI
  by_cases hi : i < 8
  · have d1 : decide (i < 8) = true := decide_eq_true hi
    have w1 : wrapF .i64 (Int.ofNat i + Int.ofNat 1) = Int.ofNat (i + 1) := i64_add (by omega)
    have w2 : wrapF .u8 (Int.ofNat i) = Int.ofNat i := u8_nat (by omega)
    have w3 : wrapF .u8 (Int.ofNat 97 + Int.ofNat i) = Int.ofNat (97 + i) := u8_nat (a := 97 + i) (by omega)
    obtain ⟨h1, h1e⟩ : ∃ h1, h1 = h.newCells 5 [.int .u8 (.ofNat (97 + i))] := ⟨_, rfl⟩
    have o1 : Only h h1 [] := by rw [h1e]; exact (Only.refl _ _).new _ _
    have z1 : cellAt h1 h.nx 0 = some (.int .u8 (.ofNat (97 + i))) := by rw [h1e]; simp only [B, xB, F, reduceLT, reduceLeDiff, reduceEqDiff, reduceAdd, reduceMul, reduceSub, ↓reduceIte, eq_self]
    have cb := conv_b1 z1 (by omega)
    repeat' (first | ((with_reducible refine st1 ?_); (conv => whnf); (with_reducible refine ⟨?_⟩)) | ((with_reducible refine retW_intro rfl ?_); (conv => arg 2; whnf)) | ((with_reducible first | refine iB ?_ ?_ | refine gWt ?_ ?_ | refine gWf ?_ ?_) <;> intro hb <;> (try simp only [hb])) | (simp only [B, xB, F, reduceLT, reduceLeDiff, reduceEqDiff, reduceAdd, reduceMul, reduceSub, ↓reduceIte, eq_self, t7, t12, t18, d1, w2, w3, ← h1e, cb]))
    refine ((ofC h1 bx (kk i) Rx sx (ix.keep (oo.t o1))).call P).mono P ?_
    rintro v2 h2 ⟨o2, hg2⟩
    obtain ⟨y2, rfl, hyo2, hyc2⟩ := hg2.val
    repeat' (first | ((with_reducible refine st1 ?_); (conv => whnf); (with_reducible refine ⟨?_⟩)) | ((with_reducible refine retW_intro rfl ?_); (conv => arg 2; whnf)) | ((with_reducible first | refine iB ?_ ?_ | refine gWt ?_ ?_ | refine gWf ?_ ?_) <;> intro hb <;> (try simp only [hb])) | (simp only [B, xB, F, reduceLT, reduceLeDiff, reduceEqDiff, reduceAdd, reduceMul, reduceSub, ↓reduceIte, eq_self, t7, t12, t18, hyo2, hyc2]))
    refine ((W.sinceC h2 (.agg [y2]) (getL (kk i) Rx) 0 hg2.at ((mx.szg _).le (by omega))).call P).mono P ?_
    rintro va h3 ⟨o3, g3⟩
    rw [mx.al i hi] at g3
    have go3 := g3.one
    have oo3 := oo.t (o1.t (o2.t o3))
    repeat' (first | ((with_reducible refine st1 ?_); (conv => whnf); (with_reducible refine ⟨?_⟩)) | ((with_reducible refine retW_intro rfl ?_); (conv => arg 2; whnf)) | ((with_reducible first | refine iB ?_ ?_ | refine gWt ?_ ?_ | refine gWf ?_ ?_) <;> intro hb <;> (try simp only [hb])) | (simp only [B, xB, F, reduceLT, reduceLeDiff, reduceEqDiff, reduceAdd, reduceMul, reduceSub, ↓reduceIte, eq_self, t7, t12, t18, go3]))
    refine ((ofC h3 b2 (kk i) Ry sy (iy.keep oo3)).call P).mono P ?_
    rintro v4 h4 ⟨o4, hg4⟩
    obtain ⟨y4, rfl, hyo4, hyc4⟩ := hg4.val
    repeat' (first | ((with_reducible refine st1 ?_); (conv => whnf); (with_reducible refine ⟨?_⟩)) | ((with_reducible refine retW_intro rfl ?_); (conv => arg 2; whnf)) | ((with_reducible first | refine iB ?_ ?_ | refine gWt ?_ ?_ | refine gWf ?_ ?_) <;> intro hb <;> (try simp only [hb])) | (simp only [B, xB, F, reduceLT, reduceLeDiff, reduceEqDiff, reduceAdd, reduceMul, reduceSub, ↓reduceIte, eq_self, t7, t12, t18, hyo4, hyc4, go3]))
    refine ((W.sinceC h4 (.agg [y4]) (getL (kk i) Ry) 0 hg4.at ((my.szg _).le (by omega))).call P).mono P ?_
    rintro vb h5 ⟨o5, g5⟩
    rw [my.al i hi] at g5
    have go5 := g5.one
    have sa := g3.slice.only (o4.t o5) (fun _ _ => by simp)
    have sb := g5.slice
    obtain ⟨l, hl⟩ : ∃ l, l = W.sinceL 0 (D i) := ⟨_, rfl⟩
    rw [← hl] at sa sb
    have hla := sa.len (P := P) u29
    have hlb := sb.len (P := P) u29
    have oo5 := oo3.t (o4.t o5)
    have q1 : decide (l.length = l.length) = true := decide_eq_true rfl
    have hlz : l.length ≤ 800 := by rw [hl]; unfold W.sinceL; exact Nat.le_trans (by simp; exact List.length_filter_le _ _) (mx.sz i hi)
    repeat' (first | ((with_reducible refine st1 ?_); (conv => whnf); (with_reducible refine ⟨?_⟩)) | ((with_reducible refine retW_intro rfl ?_); (conv => arg 2; whnf)) | ((with_reducible first | refine iB ?_ ?_ | refine gWt ?_ ?_ | refine gWf ?_ ?_) <;> intro hb <;> (try simp only [hb])) | (simp only [B, xB, F, reduceLT, reduceLeDiff, reduceEqDiff, reduceAdd, reduceMul, reduceSub, ↓reduceIte, eq_self, t7, t12, t18, go3, go5, hla, hlb, q1, Bool.not_true, Bool.not_false]))
    refine st_loop (fun n ds t' h' => ∃ j, KzI h5 bx b2 i va vb l n ds t' h' j) l.length rfl ⟨0, rfl, rfl, Nat.zero_le _, by simp only [B, xB, F, reduceLT, reduceLeDiff, reduceEqDiff, reduceAdd, reduceMul, reduceSub, ↓reduceIte, eq_self, t7], by simp only [B, xB, F, reduceLT, reduceLeDiff, reduceEqDiff, reduceAdd, reduceMul, reduceSub, ↓reduceIte, eq_self, t12], by simp only [B, xB, F, reduceLT, reduceLeDiff, reduceEqDiff, reduceAdd, reduceMul, reduceSub, ↓reduceIte, eq_self, t18], by simp only [B, xB, F, reduceLT, reduceLeDiff, reduceEqDiff, reduceAdd, reduceMul, reduceSub, ↓reduceIte, eq_self], by simp only [B, xB, F, reduceLT, reduceLeDiff, reduceEqDiff, reduceAdd, reduceMul, reduceSub, ↓reduceIte, eq_self], by simp only [B, xB, F, reduceLT, reduceLeDiff, reduceEqDiff, reduceAdd, reduceMul, reduceSub, ↓reduceIte, eq_self], rfl⟩ (fun n ds t' h' hI => ?_)
    clear t7 t12 t18
    obtain ⟨j, rfl, rfl, jj, t7, t12, t18, t20, t21, t22, rfl⟩ := hI
    by_cases hj : j < l.length
    · have d2 : decide (j < l.length) = true := decide_eq_true hj
      have lt1 : (j < l.length) = True := by simp [hj]
      have w5 : wrapF .i64 (Int.ofNat j + Int.ofNat 1) = Int.ofNat (j + 1) := i64_add (by omega)
      obtain ⟨x, hx⟩ : ∃ x, l[j]? = some x := ⟨_, List.getElem?_eq_getElem hj⟩
      obtain ⟨ba, oa, ca, rfl, _, _⟩ := sa.place (by omega)
      obtain ⟨bb, ob, cb, rfl, _, _⟩ := sb.place (by omega)
      obtain ⟨a0, a1⟩ := W.rvC_at sa hx
      obtain ⟨b0, b1⟩ := W.rvC_at sb hx
      have qm : (decide (x.1 = x.1) && decide (x.2 = x.2)) = true := by simp
      have q3 : decide (x.1 = x.1) = true := by simp
      have q4 : decide (x.2 = x.2) = true := by simp
      repeat' (first | ((with_reducible refine st1 ?_); (conv => whnf); (with_reducible refine ⟨?_⟩)) | ((with_reducible refine st_dw ?_ rfl rfl ?_ ?_); exact rfl; kernel_rfl; (conv => arg 5; whnf); (conv => arg 3; whnf)) | ((with_reducible refine retW_intro rfl ?_); (conv => arg 2; whnf)) | ((with_reducible first | refine iB ?_ ?_ | refine gWt ?_ ?_ | refine gWf ?_ ?_ | refine gXt ?_ ?_ | refine gXf ?_ ?_) <;> intro hb <;> (try simp only [hb])) | ((with_reducible show drawI _ _ _ _ _ _ _ _ _); first | ((with_reducible refine kI_rd ?_ ?_); exact rfl) | ((with_reducible apply kI_rg); exact rfl; exact rfl) | ((with_reducible refine kI_cv ?_ ?_ ?_); exact rfl; kernel_rfl) | ((with_reducible apply kI_al); exact rfl; exact rfl) | ((with_reducible refine kI_ex ?_ ?_ ?_ ?_ ?_); exact rfl; kernel_rfl; exact rfl) | ((with_reducible apply kI_eg); exact rfl; kernel_rfl; exact rfl) | ((with_reducible refine kI_nl ?_ ?_))) | ((with_reducible show eOk _ _ _ _ _ _); first | (exact eok_nil) | (refine ke_rd ?_ ?_ ?_; exact rfl) | (apply ke_rg; exact rfl; exact rfl) | (refine ke_cv ?_ ?_ ?_ ?_; exact rfl; kernel_rfl) | (apply ke_al; exact rfl; exact rfl)) | ((with_reducible refine freshIs_new ?_); kernel_rfl) | (simp only [B, xB, F, reduceLT, reduceLeDiff, reduceEqDiff, reduceAdd, reduceMul, reduceSub, ↓reduceIte, eq_self, t7, t12, t18, t20, t21, t22, hla, d2, lt1, a0, a1, b0, b1, qm, q3, q4, w5, Bool.and_true, Bool.true_and, Bool.not_true, Bool.not_false]))
      exact ⟨l.length - (j + 1), by omega, j + 1, rfl, rfl, hj, by simp only [B, xB, F, reduceLT, reduceLeDiff, reduceEqDiff, reduceAdd, reduceMul, reduceSub, ↓reduceIte, eq_self, t7], by simp only [B, xB, F, reduceLT, reduceLeDiff, reduceEqDiff, reduceAdd, reduceMul, reduceSub, ↓reduceIte, eq_self, t12], by simp only [B, xB, F, reduceLT, reduceLeDiff, reduceEqDiff, reduceAdd, reduceMul, reduceSub, ↓reduceIte, eq_self, t18], by simp only [B, xB, F, reduceLT, reduceLeDiff, reduceEqDiff, reduceAdd, reduceMul, reduceSub, ↓reduceIte, eq_self, t20], by simp only [B, xB, F, reduceLT, reduceLeDiff, reduceEqDiff, reduceAdd, reduceMul, reduceSub, ↓reduceIte, eq_self, t21], by simp only [B, xB, F, reduceLT, reduceLeDiff, reduceEqDiff, reduceAdd, reduceMul, reduceSub, ↓reduceIte, eq_self], rfl⟩
    ·
      have d2 : decide (j < l.length) = false := decide_eq_false hj
      repeat' (first | ((with_reducible refine st1 ?_); (conv => whnf); (with_reducible refine ⟨?_⟩)) | ((with_reducible refine retW_intro rfl ?_); (conv => arg 2; whnf)) | ((with_reducible first | refine iB ?_ ?_ | refine gWt ?_ ?_ | refine gWf ?_ ?_) <;> intro hb <;> (try simp only [hb])) | (simp only [B, xB, F, reduceLT, reduceLeDiff, reduceEqDiff, reduceAdd, reduceMul, reduceSub, ↓reduceIte, eq_self, t7, t12, t18, t20, t21, t22, hla, d2, w1]))
      exact ⟨8 - (i + 1), by omega, i + 1, rfl, rfl, hi, by simp only [B, xB, F, reduceLT, reduceLeDiff, reduceEqDiff, reduceAdd, reduceMul, reduceSub, ↓reduceIte, eq_self, t7], by simp only [B, xB, F, reduceLT, reduceLeDiff, reduceEqDiff, reduceAdd, reduceMul, reduceSub, ↓reduceIte, eq_self, t12], by simp only [B, xB, F, reduceLT, reduceLeDiff, reduceEqDiff, reduceAdd, reduceMul, reduceSub, ↓reduceIte, eq_self], oo5⟩
  · have d1 : decide (i < 8) = false := decide_eq_false hi
    repeat' (first | ((with_reducible refine st1 ?_); (conv => whnf); (with_reducible refine ⟨?_⟩)) | ((with_reducible refine retW_intro rfl ?_); (conv => arg 2; whnf)) | ((with_reducible first | refine iB ?_ ?_ | refine gWt ?_ ?_ | refine gWf ?_ ?_) <;> intro hb <;> (try simp only [hb])) | (simp only [B, xB, F, reduceLT, reduceLeDiff, reduceEqDiff, reduceAdd, reduceMul, reduceSub, ↓reduceIte, eq_self, t18, d1]))
    exact hK _ _ oo (by simp only [B, xB, F, reduceLT, reduceLeDiff, reduceEqDiff, reduceAdd, reduceMul, reduceSub, ↓reduceIte, eq_self, t7]) (by simp only [B, xB, F, reduceLT, reduceLeDiff, reduceEqDiff, reduceAdd, reduceMul, reduceSub, ↓reduceIte, eq_self, t12])
end
end Go.Proofs.Ytlkngpckibidlaa.X

namespace Go.Proofs.Ytlkngpckibidlaa.X
open Go Go.AX
noncomputable section
set_option maxRecDepth 1000000 in
theorem worksG : groundAt P noHook 60000 30 [] = some (.bool true) := by kernel_rfl
theorem worksC (h : H) {Q : AV → H → Prop} (hq : Q (.bool true) h) : CallC P (.enter 30 [] h) Q := callC_closed worksG hq
def PostTrue (v : AV) (_ : H) : Prop := v = .bool true
end
end Go.Proofs.Ytlkngpckibidlaa.X


/-
  index: the document's index: Put, Tomb.
-/
import Derived.Test.YtlkngpckibidlaaGreatAxI
import Derived.Test.YtlkngpckibidlaaGreatG2
import Derived.Test.YtlkngpckibidlaaGreatG1
import Derived.WalkKit
import Derived.Lib.Small
import Derived.Sort.Grow
import Derived.StillTailTactics
import Derived.Deep.Draws
import Derived.LoopN
import Derived.Test.YtlkngpckibidlaaGreatProg
import Derived.Shelf.SlSortCmp.NoneTotal
import Derived.Ground.SlsfProg
import Derived.Test.YtlkngpckibidlaaGreatAxH
import Derived.Test.YtlkngpckibidlaaGreatAxF
set_option linter.unusedSimpArgs false
set_option linter.unusedVariables false
set_option linter.unusedSectionVars false
open Nat (reduceLT reduceLeDiff reduceEqDiff reduceAdd reduceMul reduceSub)
namespace Go.Proofs.YtlkngpckibidlaaGreat.X
open Go Go.AX
noncomputable section
set_option maxRecDepth 100000
theorem ord3_0 : drawO P (regionOf (codeI (bodyC Tryz.f3) [0, 1, 0, 1, 0, 1, 1, 1, 0, 0, 1, 0, 0, 1, 0, 1, 1, 1])) [0, 1, 2, 3, 4, 6, 7, 8, 9, 10, 5, 11, 12, 13] = true:= by kernel_rfl
theorem ord3_1 : drawO P (regionOf (codeI (bodyC Tryz.f3) [0, 1, 1, 1, 0, 1, 0, 1, 1, 1, 0, 0, 1, 0, 0, 1, 0, 1, 1, 1])) [0, 1, 2, 3, 4, 6, 7, 8, 9, 10, 5, 11, 12, 13] = true:= by kernel_rfl
theorem ord3_2 : drawO P (regionOf (codeI (bodyC Tryz.f3) [1, 0, 1, 1, 1, 1, 1, 0, 1, 0, 1, 1, 1, 0, 0, 1, 0, 0, 1, 0, 1, 1, 1])) [0, 1, 3, 4, 2, 5, 6, 7] = true:= by kernel_rfl
theorem ord3_3 : drawO P (regionOf (codeI (bodyC Tryz.f3) [0, 1, 1, 1, 1, 1, 1, 0, 1, 0, 1, 1, 1, 0, 0, 1, 0, 0, 1, 0, 1, 1, 1])) [0, 1, 2, 3, 5, 6, 7, 8, 4, 9, 10, 11] = true:= by kernel_rfl
theorem ord14_0 : drawO P (regionOf (codeI (bodyC Tryz.f14) [0, 1, 1, 1, 0, 0, 1, 0, 0, 1, 0, 1])) [0, 1, 2, 3, 4, 7, 5, 8, 6, 9, 10, 11] = true:= by kernel_rfl
theorem ord14_1 : drawO P (regionOf (codeI (bodyC Tryz.f14) [0, 1, 1])) [0, 2, 3, 4, 5, 6, 1, 7, 8, 9, 10, 13, 14, 11, 12, 15, 16, 17, 18, 19] = true:= by kernel_rfl
theorem ord6_0 : drawO P (regionOf (codeI (bodyC Tryz.f6) [0, 1, 1])) [0, 1, 3, 8, 2, 4, 5, 6, 7, 9, 10] = true:= by kernel_rfl
theorem ord8_0 : drawO P (regionOf (codeI (bodyC Tryz.f8) [0, 1, 1])) [0, 1, 3, 8, 2, 4, 5, 6, 7, 9, 10] = true:= by kernel_rfl
theorem ord10_0 : drawO P (regionOf (codeI (bodyC Tryz.f10) [0, 1, 1, 1])) [0, 1, 2, 3, 5, 6, 7, 8, 9, 10, 11, 12, 17, 4, 13, 14, 15, 16, 18, 19] = true:= by kernel_rfl
theorem rO6ZRefE {p q r : Prop} (hq : q) (fs : r) (f : r → q → p:= by intro fs hq; (repeat' (first | ((with_reducible refine st1 ?_); (conv => whnf); (with_reducible refine ⟨?_⟩)) | ((with_reducible refine st_dp ord6_0 ?_ rfl rfl ?_); exact rfl; (conv => arg 4; whnf); (conv => arg 3; whnf)) | ((with_reducible refine retW_intro rfl ?_); (conv => arg 2; whnf)) | ((with_reducible first | refine iB ?_ ?_ | refine gWt ?_ ?_ | refine gWf ?_ ?_ | refine gXt ?_ ?_ | refine gXf ?_ ?_) <;> intro hb <;> (try simp only [hb])) | ((with_reducible show drawP _ _ _ _ _ _ _ _ _); first | ((with_reducible apply kP_rd); exact rfl; exact rfl) | ((with_reducible apply kP_rg); exact rfl; exact rfl; exact rfl) | ((with_reducible apply kP_cv); exact rfl; exact rfl; kernel_rfl) | ((with_reducible apply kP_al); exact rfl; exact rfl; exact rfl) | ((with_reducible apply kP_fl); exact rfl; exact rfl; exact rfl) | ((with_reducible apply kP_ex); exact rfl; exact rfl; kernel_rfl; exact rfl) | ((with_reducible apply kP_eg); exact rfl; exact rfl; kernel_rfl; exact rfl) | ((with_reducible refine kP_nl ?_ ?_))) | ((with_reducible show eOk _ _ _ _ _ _); first | (exact eok_nil) | (refine ke_rd ?_ ?_ ?_; exact rfl) | (apply ke_rg; exact rfl; exact rfl) | (refine ke_cv ?_ ?_ ?_ ?_; exact rfl; kernel_rfl) | (apply ke_fl; exact rfl) | (apply ke_al; exact rfl; exact rfl)) | ((with_reducible refine freshIs_new ?_); kernel_rfl) | (simp only [B, xB, F, reduceLT, reduceLeDiff, reduceEqDiff, reduceAdd, reduceMul, reduceSub, ↓reduceIte, eq_self, fs]))); exact hq) : p := f fs hq
theorem rO6ZRefE0 {p q : Prop} (hq : q) (f : q → p:= by intro hq; (repeat' (first | ((with_reducible refine st1 ?_); (conv => whnf); (with_reducible refine ⟨?_⟩)) | ((with_reducible refine st_dp ord6_0 ?_ rfl rfl ?_); exact rfl; (conv => arg 4; whnf); (conv => arg 3; whnf)) | ((with_reducible refine retW_intro rfl ?_); (conv => arg 2; whnf)) | ((with_reducible first | refine iB ?_ ?_ | refine gWt ?_ ?_ | refine gWf ?_ ?_ | refine gXt ?_ ?_ | refine gXf ?_ ?_) <;> intro hb <;> (try simp only [hb])) | ((with_reducible show drawP _ _ _ _ _ _ _ _ _); first | ((with_reducible apply kP_rd); exact rfl; exact rfl) | ((with_reducible apply kP_rg); exact rfl; exact rfl; exact rfl) | ((with_reducible apply kP_cv); exact rfl; exact rfl; kernel_rfl) | ((with_reducible apply kP_al); exact rfl; exact rfl; exact rfl) | ((with_reducible apply kP_fl); exact rfl; exact rfl; exact rfl) | ((with_reducible apply kP_ex); exact rfl; exact rfl; kernel_rfl; exact rfl) | ((with_reducible apply kP_eg); exact rfl; exact rfl; kernel_rfl; exact rfl) | ((with_reducible refine kP_nl ?_ ?_))) | ((with_reducible show eOk _ _ _ _ _ _); first | (exact eok_nil) | (refine ke_rd ?_ ?_ ?_; exact rfl) | (apply ke_rg; exact rfl; exact rfl) | (refine ke_cv ?_ ?_ ?_ ?_; exact rfl; kernel_rfl) | (apply ke_fl; exact rfl) | (apply ke_al; exact rfl; exact rfl)) | ((with_reducible refine freshIs_new ?_); kernel_rfl) | (simp only [B, xB, F, reduceLT, reduceLeDiff, reduceEqDiff, reduceAdd, reduceMul, reduceSub, ↓reduceIte, eq_self]))); exact hq) : p := f hq
theorem freshAt {h : H} {t : TypeId} {l : List AV} {b : Nat} (hb : b = h.nx) (hs : T.same (T.ofRow l) (T.ofRow l) = true) : freshIs t l ((h.newCells t l).t.get b) = true:= by subst hb; exact freshIs_new hs
theorem RefP.mono {p q : Nat → Prop} {h : H} {v : AV} {A : List W.Ch} (hr : W.RefP p h v A) (hpq : ∀ c, p c → c < h.nx → q c) : W.RefP q h v A := by
 refine ⟨hr.1, fun y e b hb => hpq b (hr.2 y e b hb) ?_⟩
 obtain ⟨s, e2, hs, -⟩ := hr.1
 rw [e] at e2; cases e2
 exact hs.blk b hb
theorem RIx.mono {p q : Nat → Prop} {h : H} {b : Nat} {Q : List RR} {s : AV} (hx : RIx p h b Q s) (hpq : ∀ c, p c → c < h.nx → q c) : RIx q h b Q s :=
 ⟨hx.lt, hx.c0, hx.wr, hx.sg, fun r hr => RefP.mono (hx.gg r hr) hpq, hx.bs⟩
def PostRP (p : Nat → Prop) (h : H) (b : Nat) (k : List Nat) (Q : List RR) (s : AV) (A : List W.Ch) (e : Nat) (v : AV) (h' : H) : Prop :=
 v = W.errV e ∧ Only h h' [b] ∧ ∃ g s', RIx p h' b (if e = 0 then setR k A g Q else Q) s' ∧ ∀ c, blkOf s' = some c → blkOf s = some c ∨ h.nx ≤ c
theorem putA_len {A : List W.Ch} {r : W.Rv} (h : A.length ≤ 900) : (W.putA A r).length ≤ 1000:= by unfold W.putA; split <;> (try simp) <;> omega
theorem tombA_len {A : List W.Ch} {r : W.Rv} (h : A.length ≤ 900) : (W.tombA A r).length ≤ 1000:= by unfold W.tombA; split <;> (try simp) <;> omega
theorem rIxPutBad (h : H) (b : Nat) (k : List Nat) (r : W.Rv) (hm : mayB k = false) : PushC P (.enter 6 [.ptr b 0, .str k, W.rvA r] h) (W.Says h (W.errV 2)) := by
 unfold W.rvA W.rvC
 refine pushC_of_codeW (fn := Tryz.f6) (c := bodyC Tryz.f6) Tryz.func6 rfl ?_
 show codeW P 6 27 none _ _ _ _ _
 refine codeW_root ?_
 refine rO6ZRefE0 ?_
 obtain ⟨h1, h1e⟩ : ∃ h1, h1 = h.newCells 31 [.int .u64 (.ofNat r.1), .int .u64 (.ofNat r.2)] := ⟨_, rfl⟩
 have o1 : Only h h1 []:= by rw [h1e]; exact (Only.refl _ _).new _ _
 rw [← h1e]
 refine ((rMayC h1 k).call P).mono P ?_
 rintro v h2 ⟨rfl, o2⟩
 rw [hm]
 refine rO6ZRefE ?_ (@Bool.not_false)
 exact ⟨rfl, o1.t o2⟩
theorem rIxPutC {p : Nat → Prop} (h : H) (b : Nat) (k : List Nat) (Q : List RR) (s : AV) (r : W.Rv) (hx : RIx p h b Q s) (hz : Q.length ≤ 100000) (hpb : ¬ p b) (hp : ∀ c, h.nx ≤ c → p c) (hAz : (refL k Q).length ≤ 900) (hr1 : r.1 < W.M64) (hm : mayB k = true) :
  PushC P (.enter 6 [.ptr b 0, .str k, W.rvA r] h) (PostRP p h b k Q s (W.putA (refL k Q) r) (W.putAE (refL k Q) r)) := by
 have hlt := hx.lt
 unfold W.rvA W.rvC
 refine pushC_of_codeW (fn := Tryz.f6) (c := bodyC Tryz.f6) Tryz.func6 rfl ?_
 show codeW P 6 27 none _ _ _ _ _
 refine codeW_root ?_
 refine rO6ZRefE0 ?_
 obtain ⟨h1, h1e⟩ : ∃ h1, h1 = h.newCells 31 [.int .u64 (.ofNat r.1), .int .u64 (.ofNat r.2)] := ⟨_, rfl⟩
 have o1 : Only h h1 []:= by rw [h1e]; exact (Only.refl _ _).new _ _
 have x1 : h1.nx = h.nx + 1:= by rw [h1e]; rfl
 have j0 : cellAt h1 h.nx 0 = some (.int .u64 (.ofNat r.1)):= by rw [h1e]; exact sT
 have j1 : cellAt h1 h.nx 1 = some (.int .u64 (.ofNat r.2)):= by rw [h1e]; exact sT
 rw [← h1e]
 refine ((rMayC h1 k).call P).mono P ?_
 rintro v h2 ⟨rfl, o2⟩
 rw [hm]
 have x2 := o2.1
 have k0 := W.kcell j0 o2 (by omega) (by simp)
 have k1 := W.kcell j1 o2 (by omega) (by simp)
 have nk : (h.nx = h2.nx) = False:= by simp; omega
 refine rO6ZRefE ?_ (V k0<|V k1<|V nk<|@Bool.not_true)
 obtain ⟨h3, h3e⟩ : ∃ h3, h3 = h2.newCells 62 [.nilslice] := ⟨_, rfl⟩
 have o3 : Only h2 h3 []:= by rw [h3e]; exact (Only.refl _ _).new _ _
 have x3 : h3.nx = h2.nx + 1:= by rw [h3e]; rfl
 have z3 : cellAt h3 h2.nx 0 = some .nilslice:= by rw [h3e]; exact sT
 have w3 : wrAt h3 h2.nx = true:= by rw [h3e]; exact sT
 have F3 : freshIs 62 [.nilslice] (h3.t.get h2.nx) = true:= by rw [h3e]; exact freshAt rfl (by kernel_rfl)
 rw [← h3e]
 have o13 := o1.t (o2.t o3)
 have hx3 : RIx (fun c => p c ∧ c ≠ h2.nx) h3 b Q s := (hx.mono (q := fun c => p c ∧ c ≠ h2.nx) (fun c a e => ⟨a, by omega⟩)).keep o13
 refine ((rOfC h3 b k Q s hx3 hz).call P).mono P ?_
 rintro v4 h4 ⟨o4, hg4⟩
 have x4 := o4.1
 have F4 : freshIs 62 [.nilslice] (h4.t.get h2.nx) = true:= by rw [o4.2 _ (by omega) (by simp)]; exact F3
 obtain ⟨y4, rfl, hy4, hc4⟩ := hg4.1.val
 have k40 := W.kcell k0 (o3.t o4) (by omega) (by simp)
 have k41 := W.kcell k1 (o3.t o4) (by omega) (by simp)
 refine rO6ZRefE ?_ (V hy4<|V hc4<|V F4<|V k40<|k41)
 refine ((W.rPutC _ h4 (.agg [y4]) (refL k Q) r (fun c hc => ⟨hp c (by omega), by omega⟩) hg4 hAz hr1).call P).mono P ?_
 rintro v5 h5 ⟨o5, g, rfl, hg5⟩
 have x5 := o5.1
 have F5 : freshIs 62 [.nilslice] (h5.t.get h2.nx) = true:= by rw [o5.2 _ (by omega) (by simp)]; exact F4
 obtain ⟨y5, rfl, hy5, hc5⟩ := hg5.1.val
 have o35 := o4.t o5
 have z5 := W.kcell z3 o35 (by omega) (by simp)
 have w5 := W.kwr w3 o35 (by omega) (by simp)
 obtain ⟨h6, h6e⟩ : ∃ h6, h6 = h5.sts h2.nx 0 [y5] := ⟨_, rfl⟩
 have o56 : Only h5 h6 [h2.nx]:= by rw [h6e]; exact (Only.refl _ _).sts (.inl (by simp))
 have x6 : h6.nx = h5.nx:= by rw [h6e, nx_sts]
 have z6 : cellAt h6 h2.nx 0 = some y5:= by rw [h6e, cellAt_sts w5, if_pos ⟨rfl, Nat.le_refl _, by simp⟩]; rfl
 have o6 : Only h h6 [] := ⟨by have := o13.1; omega, fun c hc _ => by
  have := o13.1
  rw [o56.2 c (by omega) (by simp; omega), o35.2 c (by omega) (by simp), o13.2 c hc (by simp)]⟩
 have hg6 : W.RefP p h6 (.agg [y5]) (W.putA (refL k Q) r) := RefP.mono (hg5.keep o56 (fun c hc e => by simp at hc; exact e.2 hc)) (fun c a _ => a.1)
 obtain ⟨e, he⟩ : ∃ e, e = W.putAE (refL k Q) r := ⟨_, rfl⟩
 rw [← he]
 unfold W.errV
 by_cases q : e = 0
 ·subst q
  have d : decide (0 = 0) = true := rfl
  refine rO6ZRefE ?_ (V hy5<|V hc5<|V z5<|V w5<|V z6<|V h6e.symm<|V d<|F5)
  refine ((rSetC h6 b k _ y5 Q s (hx.keep o6) hz (putA_len hAz) hpb hg6).call P).mono P ?_
  rintro v7 h7 ⟨rfl, o7, s', hx7, hb7⟩
  refine rO6ZRefE0 ?_
  exact ⟨rfl, Only.trans0 o6 o7, y5, s', by rw [if_pos rfl]; exact hx7, fun c e => .inr (by have := hb7 c e; have := o6.1; omega)⟩
 ·have d : decide (e = 0) = false := decide_eq_false q
  refine rO6ZRefE ?_ (V hy5<|V hc5<|V z5<|V w5<|V z6<|V h6e.symm<|V d<|F5)
  exact ⟨rfl, Only.wide o6, y5, s, by rw [if_neg q]; exact hx.keep o6, fun c e => .inl e⟩
theorem rO8ZRefE {p q r : Prop} (hq : q) (fs : r) (f : r → q → p:= by intro fs hq; (repeat' (first | ((with_reducible refine st1 ?_); (conv => whnf); (with_reducible refine ⟨?_⟩)) | ((with_reducible refine st_dp ord8_0 ?_ rfl rfl ?_); exact rfl; (conv => arg 4; whnf); (conv => arg 3; whnf)) | ((with_reducible refine retW_intro rfl ?_); (conv => arg 2; whnf)) | ((with_reducible first | refine iB ?_ ?_ | refine gWt ?_ ?_ | refine gWf ?_ ?_ | refine gXt ?_ ?_ | refine gXf ?_ ?_) <;> intro hb <;> (try simp only [hb])) | ((with_reducible show drawP _ _ _ _ _ _ _ _ _); first | ((with_reducible apply kP_rd); exact rfl; exact rfl) | ((with_reducible apply kP_rg); exact rfl; exact rfl; exact rfl) | ((with_reducible apply kP_cv); exact rfl; exact rfl; kernel_rfl) | ((with_reducible apply kP_al); exact rfl; exact rfl; exact rfl) | ((with_reducible apply kP_fl); exact rfl; exact rfl; exact rfl) | ((with_reducible apply kP_ex); exact rfl; exact rfl; kernel_rfl; exact rfl) | ((with_reducible apply kP_eg); exact rfl; exact rfl; kernel_rfl; exact rfl) | ((with_reducible refine kP_nl ?_ ?_))) | ((with_reducible show eOk _ _ _ _ _ _); first | (exact eok_nil) | (refine ke_rd ?_ ?_ ?_; exact rfl) | (apply ke_rg; exact rfl; exact rfl) | (refine ke_cv ?_ ?_ ?_ ?_; exact rfl; kernel_rfl) | (apply ke_fl; exact rfl) | (apply ke_al; exact rfl; exact rfl)) | ((with_reducible refine freshIs_new ?_); kernel_rfl) | (simp only [B, xB, F, reduceLT, reduceLeDiff, reduceEqDiff, reduceAdd, reduceMul, reduceSub, ↓reduceIte, eq_self, fs]))); exact hq) : p := f fs hq
theorem rO8ZRefE0 {p q : Prop} (hq : q) (f : q → p:= by intro hq; (repeat' (first | ((with_reducible refine st1 ?_); (conv => whnf); (with_reducible refine ⟨?_⟩)) | ((with_reducible refine st_dp ord8_0 ?_ rfl rfl ?_); exact rfl; (conv => arg 4; whnf); (conv => arg 3; whnf)) | ((with_reducible refine retW_intro rfl ?_); (conv => arg 2; whnf)) | ((with_reducible first | refine iB ?_ ?_ | refine gWt ?_ ?_ | refine gWf ?_ ?_ | refine gXt ?_ ?_ | refine gXf ?_ ?_) <;> intro hb <;> (try simp only [hb])) | ((with_reducible show drawP _ _ _ _ _ _ _ _ _); first | ((with_reducible apply kP_rd); exact rfl; exact rfl) | ((with_reducible apply kP_rg); exact rfl; exact rfl; exact rfl) | ((with_reducible apply kP_cv); exact rfl; exact rfl; kernel_rfl) | ((with_reducible apply kP_al); exact rfl; exact rfl; exact rfl) | ((with_reducible apply kP_fl); exact rfl; exact rfl; exact rfl) | ((with_reducible apply kP_ex); exact rfl; exact rfl; kernel_rfl; exact rfl) | ((with_reducible apply kP_eg); exact rfl; exact rfl; kernel_rfl; exact rfl) | ((with_reducible refine kP_nl ?_ ?_))) | ((with_reducible show eOk _ _ _ _ _ _); first | (exact eok_nil) | (refine ke_rd ?_ ?_ ?_; exact rfl) | (apply ke_rg; exact rfl; exact rfl) | (refine ke_cv ?_ ?_ ?_ ?_; exact rfl; kernel_rfl) | (apply ke_fl; exact rfl) | (apply ke_al; exact rfl; exact rfl)) | ((with_reducible refine freshIs_new ?_); kernel_rfl) | (simp only [B, xB, F, reduceLT, reduceLeDiff, reduceEqDiff, reduceAdd, reduceMul, reduceSub, ↓reduceIte, eq_self]))); exact hq) : p := f hq
theorem rIxTombBad (h : H) (b : Nat) (k : List Nat) (r : W.Rv) (hm : mayB k = false) : PushC P (.enter 8 [.ptr b 0, .str k, W.rvA r] h) (W.Says h (W.errV 2)) := by
 unfold W.rvA W.rvC
 refine pushC_of_codeW (fn := Tryz.f8) (c := bodyC Tryz.f8) Tryz.func8 rfl ?_
 show codeW P 8 27 none _ _ _ _ _
 refine codeW_root ?_
 refine rO8ZRefE0 ?_
 obtain ⟨h1, h1e⟩ : ∃ h1, h1 = h.newCells 31 [.int .u64 (.ofNat r.1), .int .u64 (.ofNat r.2)] := ⟨_, rfl⟩
 have o1 : Only h h1 []:= by rw [h1e]; exact (Only.refl _ _).new _ _
 rw [← h1e]
 refine ((rMayC h1 k).call P).mono P ?_
 rintro v h2 ⟨rfl, o2⟩
 rw [hm]
 refine rO8ZRefE ?_ (@Bool.not_false)
 exact ⟨rfl, o1.t o2⟩
theorem rIxTombC {p : Nat → Prop} (h : H) (b : Nat) (k : List Nat) (Q : List RR) (s : AV) (r : W.Rv) (hx : RIx p h b Q s) (hz : Q.length ≤ 100000) (hpb : ¬ p b) (hp : ∀ c, h.nx ≤ c → p c) (hAz : (refL k Q).length ≤ 900) (hm : mayB k = true) :
  PushC P (.enter 8 [.ptr b 0, .str k, W.rvA r] h) (PostRP p h b k Q s (W.tombA (refL k Q) r) (W.tombAE (refL k Q) r)) := by
 have hlt := hx.lt
 unfold W.rvA W.rvC
 refine pushC_of_codeW (fn := Tryz.f8) (c := bodyC Tryz.f8) Tryz.func8 rfl ?_
 show codeW P 8 27 none _ _ _ _ _
 refine codeW_root ?_
 refine rO8ZRefE0 ?_
 obtain ⟨h1, h1e⟩ : ∃ h1, h1 = h.newCells 31 [.int .u64 (.ofNat r.1), .int .u64 (.ofNat r.2)] := ⟨_, rfl⟩
 have o1 : Only h h1 []:= by rw [h1e]; exact (Only.refl _ _).new _ _
 have x1 : h1.nx = h.nx + 1:= by rw [h1e]; rfl
 have j0 : cellAt h1 h.nx 0 = some (.int .u64 (.ofNat r.1)):= by rw [h1e]; exact sT
 have j1 : cellAt h1 h.nx 1 = some (.int .u64 (.ofNat r.2)):= by rw [h1e]; exact sT
 rw [← h1e]
 refine ((rMayC h1 k).call P).mono P ?_
 rintro v h2 ⟨rfl, o2⟩
 rw [hm]
 have x2 := o2.1
 have k0 := W.kcell j0 o2 (by omega) (by simp)
 have k1 := W.kcell j1 o2 (by omega) (by simp)
 have nk : (h.nx = h2.nx) = False:= by simp; omega
 refine rO8ZRefE ?_ (V k0<|V k1<|V nk<|@Bool.not_true)
 obtain ⟨h3, h3e⟩ : ∃ h3, h3 = h2.newCells 62 [.nilslice] := ⟨_, rfl⟩
 have o3 : Only h2 h3 []:= by rw [h3e]; exact (Only.refl _ _).new _ _
 have x3 : h3.nx = h2.nx + 1:= by rw [h3e]; rfl
 have z3 : cellAt h3 h2.nx 0 = some .nilslice:= by rw [h3e]; exact sT
 have w3 : wrAt h3 h2.nx = true:= by rw [h3e]; exact sT
 have F3 : freshIs 62 [.nilslice] (h3.t.get h2.nx) = true:= by rw [h3e]; exact freshAt rfl (by kernel_rfl)
 rw [← h3e]
 have o13 := o1.t (o2.t o3)
 have hx3 : RIx (fun c => p c ∧ c ≠ h2.nx) h3 b Q s := (hx.mono (q := fun c => p c ∧ c ≠ h2.nx) (fun c a e => ⟨a, by omega⟩)).keep o13
 refine ((rOfC h3 b k Q s hx3 hz).call P).mono P ?_
 rintro v4 h4 ⟨o4, hg4⟩
 have x4 := o4.1
 have F4 : freshIs 62 [.nilslice] (h4.t.get h2.nx) = true:= by rw [o4.2 _ (by omega) (by simp)]; exact F3
 obtain ⟨y4, rfl, hy4, hc4⟩ := hg4.1.val
 have k40 := W.kcell k0 (o3.t o4) (by omega) (by simp)
 have k41 := W.kcell k1 (o3.t o4) (by omega) (by simp)
 refine rO8ZRefE ?_ (V hy4<|V hc4<|V F4<|V k40<|k41)
 refine ((W.rTombC _ h4 (.agg [y4]) (refL k Q) r (fun c hc => ⟨hp c (by omega), by omega⟩) hg4 hAz).call P).mono P ?_
 rintro v5 h5 ⟨o5, g, rfl, hg5⟩
 have x5 := o5.1
 have F5 : freshIs 62 [.nilslice] (h5.t.get h2.nx) = true:= by rw [o5.2 _ (by omega) (by simp)]; exact F4
 obtain ⟨y5, rfl, hy5, hc5⟩ := hg5.1.val
 have o35 := o4.t o5
 have z5 := W.kcell z3 o35 (by omega) (by simp)
 have w5 := W.kwr w3 o35 (by omega) (by simp)
 obtain ⟨h6, h6e⟩ : ∃ h6, h6 = h5.sts h2.nx 0 [y5] := ⟨_, rfl⟩
 have o56 : Only h5 h6 [h2.nx]:= by rw [h6e]; exact (Only.refl _ _).sts (.inl (by simp))
 have x6 : h6.nx = h5.nx:= by rw [h6e, nx_sts]
 have z6 : cellAt h6 h2.nx 0 = some y5:= by rw [h6e, cellAt_sts w5, if_pos ⟨rfl, Nat.le_refl _, by simp⟩]; rfl
 have o6 : Only h h6 [] := ⟨by have := o13.1; omega, fun c hc _ => by
  have := o13.1
  rw [o56.2 c (by omega) (by simp; omega), o35.2 c (by omega) (by simp), o13.2 c hc (by simp)]⟩
 have hg6 : W.RefP p h6 (.agg [y5]) (W.tombA (refL k Q) r) := RefP.mono (hg5.keep o56 (fun c hc e => by simp at hc; exact e.2 hc)) (fun c a _ => a.1)
 obtain ⟨e, he⟩ : ∃ e, e = W.tombAE (refL k Q) r := ⟨_, rfl⟩
 rw [← he]
 unfold W.errV
 by_cases q : e = 0
 ·subst q
  have d : decide (0 = 0) = true := rfl
  refine rO8ZRefE ?_ (V hy5<|V hc5<|V z5<|V w5<|V z6<|V h6e.symm<|V d<|F5)
  refine ((rSetC h6 b k _ y5 Q s (hx.keep o6) hz (tombA_len hAz) hpb hg6).call P).mono P ?_
  rintro v7 h7 ⟨rfl, o7, s', hx7, hb7⟩
  refine rO8ZRefE0 ?_
  exact ⟨rfl, Only.trans0 o6 o7, y5, s', by rw [if_pos rfl]; exact hx7, fun c e => .inr (by have := hb7 c e; have := o6.1; omega)⟩
 ·have d : decide (e = 0) = false := decide_eq_false q
  refine rO8ZRefE ?_ (V hy5<|V hc5<|V z5<|V w5<|V z6<|V h6e.symm<|V d<|F5)
  exact ⟨rfl, Only.wide o6, y5, s, by rw [if_neg q]; exact hx.keep o6, fun c e => .inl e⟩
end
end Go.Proofs.YtlkngpckibidlaaGreat.X

namespace Go.Proofs.YtlkngpckibidlaaGreat.X
open Go Go.AX
noncomputable section
set_option maxRecDepth 100000
theorem rO10ZRefF {p q r : Prop} (hq : q) (fs : r) (f : r → q → p:= by intro fs hq; (repeat' (first | ((with_reducible refine st1 ?_); (conv => whnf); (with_reducible refine ⟨?_⟩)) | ((with_reducible refine st_dp ord10_0 ?_ rfl rfl ?_); exact rfl; (conv => arg 4; whnf); (conv => arg 3; whnf)) | ((with_reducible refine retW_intro rfl ?_); (conv => arg 2; whnf)) | ((with_reducible first | refine iB ?_ ?_ | refine gWt ?_ ?_ | refine gWf ?_ ?_ | refine gXt ?_ ?_ | refine gXf ?_ ?_) <;> intro hb <;> (try simp only [hb])) | ((with_reducible show drawP _ _ _ _ _ _ _ _ _); first | ((with_reducible apply kP_rd); exact rfl; exact rfl) | ((with_reducible apply kP_rg); exact rfl; exact rfl; exact rfl) | ((with_reducible apply kP_cv); exact rfl; exact rfl; kernel_rfl) | ((with_reducible apply kP_al); exact rfl; exact rfl; exact rfl) | ((with_reducible apply kP_fl); exact rfl; exact rfl; exact rfl) | ((with_reducible apply kP_ex); exact rfl; exact rfl; kernel_rfl; exact rfl) | ((with_reducible apply kP_eg); exact rfl; exact rfl; kernel_rfl; exact rfl) | ((with_reducible refine kP_nl ?_ ?_))) | ((with_reducible show eOk _ _ _ _ _ _); first | (exact eok_nil) | (refine ke_rd ?_ ?_ ?_; exact rfl) | (apply ke_rg; exact rfl; exact rfl) | (refine ke_cv ?_ ?_ ?_ ?_; exact rfl; kernel_rfl) | (apply ke_fl; exact rfl) | (apply ke_al; exact rfl; exact rfl)) | ((with_reducible refine freshIs_new ?_); kernel_rfl) | (simp only [B, xB, F, reduceLT, reduceLeDiff, reduceEqDiff, reduceAdd, reduceMul, reduceSub, ↓reduceIte, eq_self, fs]))); exact hq) : p := f fs hq
theorem rO10ZRefF0 {p q : Prop} (hq : q) (f : q → p:= by intro hq; (repeat' (first | ((with_reducible refine st1 ?_); (conv => whnf); (with_reducible refine ⟨?_⟩)) | ((with_reducible refine st_dp ord10_0 ?_ rfl rfl ?_); exact rfl; (conv => arg 4; whnf); (conv => arg 3; whnf)) | ((with_reducible refine retW_intro rfl ?_); (conv => arg 2; whnf)) | ((with_reducible first | refine iB ?_ ?_ | refine gWt ?_ ?_ | refine gWf ?_ ?_ | refine gXt ?_ ?_ | refine gXf ?_ ?_) <;> intro hb <;> (try simp only [hb])) | ((with_reducible show drawP _ _ _ _ _ _ _ _ _); first | ((with_reducible apply kP_rd); exact rfl; exact rfl) | ((with_reducible apply kP_rg); exact rfl; exact rfl; exact rfl) | ((with_reducible apply kP_cv); exact rfl; exact rfl; kernel_rfl) | ((with_reducible apply kP_al); exact rfl; exact rfl; exact rfl) | ((with_reducible apply kP_fl); exact rfl; exact rfl; exact rfl) | ((with_reducible apply kP_ex); exact rfl; exact rfl; kernel_rfl; exact rfl) | ((with_reducible apply kP_eg); exact rfl; exact rfl; kernel_rfl; exact rfl) | ((with_reducible refine kP_nl ?_ ?_))) | ((with_reducible show eOk _ _ _ _ _ _); first | (exact eok_nil) | (refine ke_rd ?_ ?_ ?_; exact rfl) | (apply ke_rg; exact rfl; exact rfl) | (refine ke_cv ?_ ?_ ?_ ?_; exact rfl; kernel_rfl) | (apply ke_fl; exact rfl) | (apply ke_al; exact rfl; exact rfl)) | ((with_reducible refine freshIs_new ?_); kernel_rfl) | (simp only [B, xB, F, reduceLT, reduceLeDiff, reduceEqDiff, reduceAdd, reduceMul, reduceSub, ↓reduceIte, eq_self]))); exact hq) : p := f hq
theorem restA_len {A : List W.Ch} {r : W.Rv} {a n : Nat} (h : A.length ≤ 900) : (W.restAP A r a n).length ≤ 1000:= by unfold W.restAP; split <;> (try simp) <;> omega
theorem rIxRestT {p : Nat → Prop} (h : H) (b : Nat) (Q : List RR) (s : AV) (r : Rc) (hx : RIx p h b Q s) (hz : Q.length ≤ 100000) (hpb : ¬ p b) (hp : ∀ c, h.nx ≤ c → p c) (hAz : (refL r.key Q).length ≤ 900) (hm : mayB r.key = true) (ht : r.tomb = true) :
  PushC P (.enter 10 [.ptr b 0, rcA r] h) fun v h' => v = W.errV (if W.tombAE (refL r.key Q) r.rev = 5 then 0 else W.tombAE (refL r.key Q) r.rev) ∧ Only h h' [b] ∧ ∃ g s', RIx p h' b (if W.tombAE (refL r.key Q) r.rev = 0 then setR r.key (W.tombA (refL r.key Q) r.rev) g Q else Q) s' ∧ ∀ c, blkOf s' = some c → blkOf s = some c ∨ h.nx ≤ c := by
 have hlt := hx.lt
 unfold rcA rcC
 refine pushC_of_codeW (fn := Tryz.f10) (c := bodyC Tryz.f10) Tryz.func10 rfl ?_
 show codeW P 10 51 none _ _ _ _ _
 refine codeW_root ?_
 refine rO10ZRefF ?_ (ht)
 obtain ⟨h1, h1e⟩ : ∃ h1, h1 = h.newCells 39 (rcC r) := ⟨_, rfl⟩
 have o1 : Only h h1 []:= by rw [h1e]; exact (Only.refl _ _).new _ _
 have x1 : h1.nx = h.nx + 1:= by rw [h1e]; rfl
 have j8 : ∀ i, i < 8 → cellAt h1 h.nx i = (rcC r)[i]? := fun i hi => by rw [h1e, cellAt_new, if_pos rfl]
 have h1e' := h1e
 unfold rcC at h1e'
 rw [ht] at h1e'
 rw [← h1e']
 have j0 : cellAt h1 h.nx 0 = some _ := j8 0 (by omega)
 have j1 : cellAt h1 h.nx 1 = some _ := j8 1 (by omega)
 have j2 : cellAt h1 h.nx 2 = some _ := j8 2 (by omega)
 have j7 : cellAt h1 h.nx 7 = some (.bool r.tomb) := j8 7 (by omega)
 rw [ht] at j7
 refine ((rIxTombC h1 b r.key Q s r.rev (hx.keep o1) hz hpb (fun c hc => hp c (by omega)) hAz hm).call P).mono P ?_
 rintro v h2 ⟨rfl, o2, g, s', hx2, hb2⟩
 have nb : ∀ c, blkOf s' = some c → blkOf s = some c ∨ h.nx ≤ c := fun c e => (hb2 c e).imp id (fun q => by omega)
 obtain ⟨e, he⟩ : ∃ e, e = W.tombAE (refL r.key Q) r.rev := ⟨_, rfl⟩
 rw [← he] at hx2 ⊢
 unfold W.errV
 by_cases q : e = 5
 ·have d : decide (e = 5) = true := decide_eq_true q
  refine rO10ZRefF ?_ (d)
  exact ⟨by rw [if_pos q], Only.trans0 o1 o2, g, s', hx2, nb⟩
 ·have d : decide (e = 5) = false := decide_eq_false q
  refine rO10ZRefF ?_ (d)
  exact ⟨by rw [if_neg q], Only.trans0 o1 o2, g, s', hx2, nb⟩
theorem rIxRestC {p : Nat → Prop} (h : H) (b : Nat) (Q : List RR) (s : AV) (r : Rc) (hx : RIx p h b Q s) (hz : Q.length ≤ 100000) (hpb : ¬ p b) (hp : ∀ c, h.nx ≤ c → p c) (hAz : (refL r.key Q).length ≤ 900) (hnth : r.version < W.M64) (hm : mayB r.key = true) (ht : r.tomb = false) :
  PushC P (.enter 10 [.ptr b 0, rcA r] h) (PostRP p h b r.key Q s (W.restAP (refL r.key Q) r.rev r.create r.version) (W.restAE (refL r.key Q) r.rev r.create r.version)) := by
 have hlt := hx.lt
 unfold rcA rcC
 refine pushC_of_codeW (fn := Tryz.f10) (c := bodyC Tryz.f10) Tryz.func10 rfl ?_
 show codeW P 10 51 none _ _ _ _ _
 refine codeW_root ?_
 refine rO10ZRefF ?_ (ht)
 obtain ⟨h1, h1e⟩ : ∃ h1, h1 = h.newCells 39 (rcC r) := ⟨_, rfl⟩
 have o1 : Only h h1 []:= by rw [h1e]; exact (Only.refl _ _).new _ _
 have x1 : h1.nx = h.nx + 1:= by rw [h1e]; rfl
 have j8 : ∀ i, i < 8 → cellAt h1 h.nx i = (rcC r)[i]? := fun i hi => by rw [h1e, cellAt_new, if_pos rfl]
 have h1e' := h1e
 unfold rcC at h1e'
 rw [ht] at h1e'
 rw [← h1e']
 have j0 : cellAt h1 h.nx 0 = some _ := j8 0 (by omega)
 have j1 : cellAt h1 h.nx 1 = some _ := j8 1 (by omega)
 have j2 : cellAt h1 h.nx 2 = some _ := j8 2 (by omega)
 have j7 : cellAt h1 h.nx 7 = some (.bool r.tomb) := j8 7 (by omega)
 rw [ht] at j7
 refine ((rMayC h1 r.key).call P).mono P ?_
 rintro v h2 ⟨rfl, o2⟩
 rw [hm]
 have x2 := o2.1
 have k8 : ∀ i, i < 8 → cellAt h2 h.nx i = (rcC r)[i]? := fun i hi => W.kcell (j8 i hi) o2 (by omega) (by simp)
 have k2 : cellAt h2 h.nx 2 = some (.str r.key) := k8 2 (by omega)
 have k0 : cellAt h2 h.nx 0 = some (.int .u64 (.ofNat r.rev.1)) := k8 0 (by omega)
 have k1 : cellAt h2 h.nx 1 = some (.int .u64 (.ofNat r.rev.2)) := k8 1 (by omega)
 have k4 : cellAt h2 h.nx 4 = some (.int .u64 (.ofNat r.create)) := k8 4 (by omega)
 have k6 : cellAt h2 h.nx 6 = some (.int .u64 (.ofNat r.version)) := k8 6 (by omega)
 have nk : (h.nx = h2.nx) = False:= by simp; omega
 refine rO10ZRefF ?_ (V k0<|V k1<|V k2<|V k4<|V k6<|V nk<|@Bool.not_true)
 obtain ⟨h3, h3e⟩ : ∃ h3, h3 = h2.newCells 62 [.nilslice] := ⟨_, rfl⟩
 have o3 : Only h2 h3 []:= by rw [h3e]; exact (Only.refl _ _).new _ _
 have x3 : h3.nx = h2.nx + 1:= by rw [h3e]; rfl
 have z3 : cellAt h3 h2.nx 0 = some .nilslice:= by rw [h3e]; exact sT
 have w3 : wrAt h3 h2.nx = true:= by rw [h3e]; exact sT
 have F3 : freshIs 62 [.nilslice] (h3.t.get h2.nx) = true:= by rw [h3e]; exact freshAt rfl (by kernel_rfl)
 rw [← h3e]
 have o13 := o1.t (o2.t o3)
 have hx3 : RIx (fun c => p c ∧ c ≠ h2.nx) h3 b Q s := (hx.mono (q := fun c => p c ∧ c ≠ h2.nx) (fun c a e => ⟨a, by omega⟩)).keep o13
 refine ((rOfC h3 b r.key Q s hx3 hz).call P).mono P ?_
 rintro v4 h4 ⟨o4, hg4⟩
 have x4 := o4.1
 have F4 : freshIs 62 [.nilslice] (h4.t.get h2.nx) = true:= by rw [o4.2 _ (by omega) (by simp)]; exact F3
 obtain ⟨y4, rfl, hy4, hc4⟩ := hg4.1.val
 have kk4 : ∀ i, i < 8 → cellAt h4 h.nx i = (rcC r)[i]? := fun i hi => W.kcell (k8 i hi) (o3.t o4) (by omega) (by simp)
 have q0 : cellAt h4 h.nx 0 = some _ := kk4 0 (by omega)
 have q1 : cellAt h4 h.nx 1 = some _ := kk4 1 (by omega)
 have q2 : cellAt h4 h.nx 2 = some _ := kk4 2 (by omega)
 have q4 : cellAt h4 h.nx 4 = some _ := kk4 4 (by omega)
 have q6 : cellAt h4 h.nx 6 = some _ := kk4 6 (by omega)
 refine rO10ZRefF ?_ (V hy4<|V hc4<|V F4<|V q0<|V q1<|V q2<|V q4<|q6)
 refine ((W.rRestC _ h4 (.agg [y4]) (refL r.key Q) r.rev r.create r.version (fun c hc => ⟨hp c (by omega), by omega⟩) hg4 hAz hnth).call P).mono P ?_
 rintro v5 h5 ⟨o5, g, rfl, hg5⟩
 have x5 := o5.1
 have F5 : freshIs 62 [.nilslice] (h5.t.get h2.nx) = true:= by rw [o5.2 _ (by omega) (by simp)]; exact F4
 obtain ⟨y5, rfl, hy5, hc5⟩ := hg5.1.val
 have o35 := o4.t o5
 have z5 := W.kcell z3 o35 (by omega) (by simp)
 have w5 := W.kwr w3 o35 (by omega) (by simp)
 obtain ⟨h6, h6e⟩ : ∃ h6, h6 = h5.sts h2.nx 0 [y5] := ⟨_, rfl⟩
 have o56 : Only h5 h6 [h2.nx]:= by rw [h6e]; exact (Only.refl _ _).sts (.inl (by simp))
 have x6 : h6.nx = h5.nx:= by rw [h6e, nx_sts]
 have z6 : cellAt h6 h2.nx 0 = some y5:= by rw [h6e, cellAt_sts w5, if_pos ⟨rfl, Nat.le_refl _, by simp⟩]; rfl
 have o6 : Only h h6 [] := ⟨by have := o13.1; omega, fun c hc _ => by
  have := o13.1
  rw [o56.2 c (by omega) (by simp; omega), o35.2 c (by omega) (by simp), o13.2 c hc (by simp)]⟩
 have hg6 : W.RefP p h6 (.agg [y5]) (W.restAP (refL r.key Q) r.rev r.create r.version) := RefP.mono (hg5.keep o56 (fun c hc e => by simp at hc; exact e.2 hc)) (fun c a _ => a.1)
 obtain ⟨e, he⟩ : ∃ e, e = W.restAE (refL r.key Q) r.rev r.create r.version := ⟨_, rfl⟩
 rw [← he]
 unfold W.errV
 have q26 : cellAt h6 h.nx 2 = some (.str r.key):= by rw [cellAt_of_get (o56.2 _ (by omega) (by simp; omega)), cellAt_of_get (o5.2 _ (by omega) (by simp))]; exact kk4 2 (by omega)
 by_cases q : e = 0
 ·subst q
  have d : decide (0 = 0) = true := rfl
  refine rO10ZRefF ?_ (V hy5<|V hc5<|V z5<|V w5<|V z6<|V q26<|V h6e.symm<|V d<|F5)
  refine ((rSetC h6 b r.key _ y5 Q s (hx.keep o6) hz (restA_len hAz) hpb hg6).call P).mono P ?_
  rintro v7 h7 ⟨rfl, o7, s', hx7, hb7⟩
  refine rO10ZRefF0 ?_
  exact ⟨rfl, Only.trans0 o6 o7, y5, s', by rw [if_pos rfl]; exact hx7, fun c e => .inr (by have := hb7 c e; have := o6.1; omega)⟩
 ·have d : decide (e = 0) = false := decide_eq_false q
  refine rO10ZRefF ?_ (V hy5<|V hc5<|V z5<|V w5<|V z6<|V q26<|V h6e.symm<|V d<|F5)
  exact ⟨rfl, Only.wide o6, y5, s, by rw [if_neg q]; exact hx.keep o6, fun c e => .inl e⟩
theorem rIxRestBad (h : H) (b : Nat) (r : Rc) (hm : mayB r.key = false) : PushC P (.enter 10 [.ptr b 0, rcA r] h) (W.Says h (W.errV 2)) := by
 cases ht : r.tomb with
 | true =>
  unfold rcA rcC
  refine pushC_of_codeW (fn := Tryz.f10) (c := bodyC Tryz.f10) Tryz.func10 rfl ?_
  show codeW P 10 51 none _ _ _ _ _
  refine codeW_root ?_
  refine rO10ZRefF ?_ (ht)
  obtain ⟨h1, h1e⟩ : ∃ h1, h1 = h.newCells 39 (rcC r) := ⟨_, rfl⟩
  have o1 : Only h h1 []:= by rw [h1e]; exact (Only.refl _ _).new _ _
  have x1 : h1.nx = h.nx + 1:= by rw [h1e]; rfl
  have j8 : ∀ i, i < 8 → cellAt h1 h.nx i = (rcC r)[i]? := fun i hi => by rw [h1e, cellAt_new, if_pos rfl]
  have h1e' := h1e
  unfold rcC at h1e'
  rw [ht] at h1e'
  rw [← h1e']
  have j0 : cellAt h1 h.nx 0 = some _ := j8 0 (by omega)
  have j1 : cellAt h1 h.nx 1 = some _ := j8 1 (by omega)
  have j2 : cellAt h1 h.nx 2 = some _ := j8 2 (by omega)
  have j7 : cellAt h1 h.nx 7 = some (.bool r.tomb) := j8 7 (by omega)
  rw [ht] at j7
  refine ((rIxTombBad h1 b r.key r.rev hm).call P).mono P ?_
  rintro v h2 ⟨rfl, o2⟩
  unfold W.errV
  have d : decide (2 = 5) = false := rfl
  refine rO10ZRefF ?_ (d)
  exact ⟨rfl, o1.t o2⟩
 | false =>
  unfold rcA rcC
  refine pushC_of_codeW (fn := Tryz.f10) (c := bodyC Tryz.f10) Tryz.func10 rfl ?_
  show codeW P 10 51 none _ _ _ _ _
  refine codeW_root ?_
  refine rO10ZRefF ?_ (ht)
  obtain ⟨h1, h1e⟩ : ∃ h1, h1 = h.newCells 39 (rcC r) := ⟨_, rfl⟩
  have o1 : Only h h1 []:= by rw [h1e]; exact (Only.refl _ _).new _ _
  have x1 : h1.nx = h.nx + 1:= by rw [h1e]; rfl
  have j8 : ∀ i, i < 8 → cellAt h1 h.nx i = (rcC r)[i]? := fun i hi => by rw [h1e, cellAt_new, if_pos rfl]
  have h1e' := h1e
  unfold rcC at h1e'
  rw [ht] at h1e'
  rw [← h1e']
  have j0 : cellAt h1 h.nx 0 = some _ := j8 0 (by omega)
  have j1 : cellAt h1 h.nx 1 = some _ := j8 1 (by omega)
  have j2 : cellAt h1 h.nx 2 = some _ := j8 2 (by omega)
  have j7 : cellAt h1 h.nx 7 = some (.bool r.tomb) := j8 7 (by omega)
  rw [ht] at j7
  refine ((rMayC h1 r.key).call P).mono P ?_
  rintro v h2 ⟨rfl, o2⟩
  rw [hm]
  refine rO10ZRefF ?_ (@Bool.not_false)
  exact ⟨rfl, o1.t o2⟩
end
end Go.Proofs.YtlkngpckibidlaaGreat.X

namespace Go.Proofs.YtlkngpckibidlaaGreat.X
open Go Go.AX
noncomputable section
set_option maxRecDepth 100000
def rItV (k : List Nat) (A : List W.Ch) (m : Nat) : List AV :=
 if W.atT A m then [.str k, .int .u64 (.ofNat (W.atA A m).rev.1), .int .u64 (.ofNat (W.atA A m).rev.2), .int .u64 (.ofNat (W.atA A m).made), .int .u64 (.ofNat (W.atA A m).nth)]
 else [.str [], .int .u64 (.ofNat 0), .int .u64 (.ofNat 0), .int .u64 (.ofNat 0), .int .u64 (.ofNat 0)]
theorem rGetC {p : Nat → Prop} (h : H) (b : Nat) (k : List Nat) (m : Nat) (Q : List RR) (s : AV) (hx : RIx p h b Q s) (hz : Q.length ≤ 100000) (hAz : (refL k Q).length ≤ 1000) :
  PushC P (.enter 40 [.ptr b 0, .str k, W.n64 m] h) (W.Says h (.tuple [.agg (rItV k (refL k Q) m), .bool (W.atT (refL k Q) m)])) := by
 unfold W.n64
 refine pushC_of_codeW (fn := Tryz.f40) (c := bodyC Tryz.f40) Tryz.func40 rfl ?_
 show codeW P 40 30 none _ _ _ _ _
 refine codeW_root ?_
 refine rN0 ?_
 obtain ⟨h1, h1e⟩ : ∃ h1, h1 = h.newCells 90 [.str [], .int .u64 (.ofNat 0), .int .u64 (.ofNat 0), .int .u64 (.ofNat 0), .int .u64 (.ofNat 0)] := ⟨_, rfl⟩
 have o1 : Only h h1 []:= by rw [h1e]; exact (Only.refl _ _).new _ _
 have x1 : h1.nx = h.nx + 1:= by rw [h1e]; rfl
 have z0 : cellAt h1 h.nx 0 = some (.str []):= by rw [h1e]; exact sT
 have z1 : cellAt h1 h.nx 1 = some (.int .u64 (.ofNat 0)):= by rw [h1e]; exact sT
 have z2 : cellAt h1 h.nx 2 = some (.int .u64 (.ofNat 0)):= by rw [h1e]; exact sT
 have z3 : cellAt h1 h.nx 3 = some (.int .u64 (.ofNat 0)):= by rw [h1e]; exact sT
 have z4 : cellAt h1 h.nx 4 = some (.int .u64 (.ofNat 0)):= by rw [h1e]; exact sT
 have w1 : wrAt h1 h.nx = true:= by rw [h1e]; exact sT
 rw [← h1e]
 refine ((rOfC h1 b k Q s (hx.keep o1) hz).call P).mono P ?_
 rintro v2 h2 ⟨o2, hg2⟩
 obtain ⟨y2, rfl, hy2, hc2⟩ := hg2.1.val
 refine rN ?_ (V hy2<|hc2)
 refine ((W.rAtC h2 (.agg [y2]) (refL k Q) m hg2.1 hAz).call P).mono P ?_
 rintro v3 h3 ⟨rfl, o3⟩
 have x2 := o2.1
 have x3 := o3.1
 have o23 := o2.t o3
 replace z0 := W.kcell z0 o23 (by omega) (by simp)
 replace z1 := W.kcell z1 o23 (by omega) (by simp)
 replace z2 := W.kcell z2 o23 (by omega) (by simp)
 replace z3 := W.kcell z3 o23 (by omega) (by simp)
 replace z4 := W.kcell z4 o23 (by omega) (by simp)
 replace w1 := W.kwr w1 o23 (by omega) (by simp)
 have nk : (h.nx = h3.nx) = False:= by simp; omega
 have nk2 : (h3.nx = h.nx) = False:= by simp; omega
 have o13 := o1.t o23
 unfold W.rvA W.rvC W.n64 rItV
 cases hat : W.atT (refL k Q) m with
 | false =>
  simp only [Bool.false_eq_true, if_false]
  refine rN ?_ (V z0<|V z1<|V z2<|V z3<|V z4<|V w1<|V nk<|V nk2<|@Bool.not_false)
  refine ⟨rfl, ?_⟩
  exact ((o13.new _ _).sts (.inr (by omega))).sts (.inr (by omega))
 | true =>
  simp only [if_true]
  refine rN ?_ (V z0<|V z1<|V z2<|V z3<|V z4<|V w1<|V nk<|V nk2<|@Bool.not_true)
  refine ⟨rfl, ?_⟩
  exact ((o13.new _ _).sts (.inr (by omega))).sts (.inr (by omega))
end
end Go.Proofs.YtlkngpckibidlaaGreat.X

namespace Go.Proofs.YtlkngpckibidlaaGreat.X
open Go Go.AX
noncomputable section
set_option maxRecDepth 100000
def rItOf (m : Nat) (r : RR) : It := ⟨r.key, (W.atA r.A m).rev, (W.atA r.A m).made, (W.atA r.A m).nth⟩
def rPass (m : Nat) (key e : List Nat) (r : RR) : Bool := W.atT r.A m && inB r.key key e
def rItsL (m : Nat) (key e : List Nat) (Q : List RR) : List It := (Q.filter (rPass m key e)).map (rItOf m)
theorem rIts_take {m : Nat} {key e : List Nat} {Q : List RR} {k : Nat} {r : RR} (hr : Q[k]? = some r) : rItsL m key e (Q.take (k + 1)) = if rPass m key e r then rItsL m key e (Q.take k) ++ [rItOf m r] else rItsL m key e (Q.take k) := by
 unfold rItsL
 rw [List.take_add_one, hr, List.filter_append, List.map_append]
 by_cases q : rPass m key e r = true
 ·simp [q]
 ·simp [q]
theorem rIts_len (m : Nat) (key e : List Nat) (Q : List RR) : (rItsL m key e Q).length ≤ Q.length:= by unfold rItsL; rw [List.length_map]; exact List.length_filter_le _ _
structure RgI (h0 : H) (b m : Nat) (key e : List Nat) (Q : List RR) (n : Nat) (ds : List Nat) (tm : T AV) (h : H) (i : Nat) (v : AV) : Prop where
 ds : ds = []
 nn : n = Q.length - i
 ii : i ≤ Q.length
 t0 : tm.get 0 = some (.ptr b 0)
 t1 : tm.get 1 = some (.str key)
 t2 : tm.get 2 = some (.str e)
 t3 : tm.get 3 = some (.int .u64 (.ofNat m))
 t9 : tm.get 9 = some v
 t10 : tm.get 10 = some (.int .i64 (.ofNat i))
 oo : Only h0 h []
 gr : Grows 5 h0.nx h v (rItsL m key e (Q.take i)).length (itsC (rItsL m key e (Q.take i)))
theorem rRangeC {p : Nat → Prop} (h0 : H) (b m : Nat) (key e : List Nat) (Q : List RR) (s : AV) (hx : RIx p h0 b Q s) (hz : Q.length ≤ 100000) (hu : ∀ r, r ∈ Q → refL r.key Q = r.A) (hAz : ∀ r, r ∈ Q → r.A.length ≤ 1000) :
  PushC P (.enter 38 [.ptr b 0, .str key, .str e, W.n64 m] h0) fun v h' => Only h0 h' [] ∧ Grows 5 h0.nx h' v (rItsL m key e Q).length (itsC (rItsL m key e Q)) := by
 have hlen := hx.sl.len (P := P) u26
 have hso := W.SliceAt.one hx.sl
 unfold W.n64
 refine pushC_of_codeW (fn := Tryz.f38) (c := bodyC Tryz.f38) Tryz.func38 rfl ?_
 show codeW P 38 49 none _ _ _ _ _
 refine codeW_root ?_
 refine rN0 ?_
 refine st_loop (fun n ds tm h => ∃ i v, RgI h0 b m key e Q n ds tm h i v) Q.length rfl ⟨0, .nilslice, rfl, rfl, Nat.zero_le _, by exact sT, by exact sT, by exact sT, by exact sT, by exact sT, by exact sT, Only.refl _ _, .none⟩ (fun n ds tm h hI => ?_)
 obtain ⟨i, v, rfl, rfl, ii, t0, t1, t2, t3, t9, t10, oo, gr⟩ := hI
 have hxh := hx.keep oo
 have c0 := hxh.c0
 have gro := gr.one
 have x0 := oo.1
 by_cases hi : i < Q.length
 ·have d1 : decide (i < Q.length) = true := decide_eq_true hi
  have lt1 : (i < Q.length) = True:= by simp [hi]
  have w1 : wrapF .i64 (Int.ofNat i + Int.ofNat 1) = Int.ofNat (i + 1) := i64_add (by omega)
  obtain ⟨r, hr⟩ : ∃ r, Q[i]? = some r := ⟨_, List.getElem?_eq_getElem hi⟩
  have hrm := List.mem_of_getElem? hr
  have hsl := hxh.sl
  obtain ⟨bl, o, cap, rfl, hbl, -⟩ := hx.sl.place (by omega)
  obtain ⟨p0, p1⟩ := rr_at hsl hr
  have htk := rIts_take (m := m) (key := key) (e := e) hr
  refine rN ?_ (V t0<|V t1<|V t2<|V t3<|V t9<|V t10<|V c0<|V hlen<|V d1<|V lt1<|p0)
  refine ((rGetC h b r.key m Q _ hxh hz (by rw [hu r hrm]; exact hAz r hrm)).call P).mono P ?_
  rintro v1 h1 ⟨rfl, o1⟩
  rw [hu r hrm]
  obtain ⟨h2, h2e⟩ : ∃ h2, h2 = (h1.newCells 90 [.str [], .int .u64 (.ofNat 0), .int .u64 (.ofNat 0), .int .u64 (.ofNat 0), .int .u64 (.ofNat 0)]).sts h1.nx 0 (rItV r.key r.A m) := ⟨_, rfl⟩
  have o2 : Only h1 h2 []:= by rw [h2e]; exact ((Only.refl _ _).new _ _).sts (.inr (Nat.le_refl _))
  have x1 := o1.1
  have x2 : h2.nx = h1.nx + 1:= by rw [h2e, nx_sts, nx_new]
  have o02 : Only h h2 [] := o1.t o2
  have g2 : Grows 5 h0.nx h2 v _ _ := gr.of_get o02.1 (fun c e => o02.2 c (gr.base e).2 (by simp))
  have hpass : rPass m key e r = (W.atT r.A m && inB r.key key e) := rfl
  unfold rItV at h2e ⊢
  cases hat : W.atT r.A m with
  | false =>
   rw [hat] at h2e
   simp only [Bool.false_eq_true, if_false] at h2e ⊢
   rw [hpass, hat, Bool.false_and, if_neg (by simp)] at htk
   refine rN ?_ (V t0<|V t1<|V t2<|V t3<|V t9<|V t10<|V gro<|V w1<|h2e.symm)
   refine ⟨Q.length - (i + 1), by omega, i + 1, v, rfl, rfl, hi, by exact sT, by exact sT, by exact sT, by exact sT, by exact sT, by exact sT, oo.t o02, by rw [htk]; exact g2⟩
  | true =>
   rw [hat] at h2e
   simp only [if_true] at h2e ⊢
   have cs : ∀ j, j < 5 → cellAt h2 h1.nx j = (itC (rItOf m r))[j]? := fun j hj => by
    rw [h2e, cellAt_sts (by rw [wrAt_new, if_pos rfl]), if_pos ⟨rfl, Nat.zero_le _, by simp; omega⟩]; rfl
   have q0 : cellAt h2 h1.nx 0 = some (.str r.key) := cs 0 (by omega)
   refine rN ?_ (V t0<|V t1<|V t2<|V t3<|V t9<|V t10<|V gro<|V w1<|V h2e.symm<|q0)
   refine ((rInC h2 r.key key e).call P).mono P ?_
   rintro v3 h3 ⟨rfl, o3⟩
   have g3 : Grows 5 h0.nx h3 v _ _ := g2.of_get o3.1 (fun c e => o3.2 c (g2.base e).2 (by simp))
   have x3 := o3.1
   have q30 := W.kcell (cs 0 (by omega)) o3 (by omega) (by simp)
   have q31 := W.kcell (cs 1 (by omega)) o3 (by omega) (by simp)
   have q32 := W.kcell (cs 2 (by omega)) o3 (by omega) (by simp)
   have q33 := W.kcell (cs 3 (by omega)) o3 (by omega) (by simp)
   have q34 := W.kcell (cs 4 (by omega)) o3 (by omega) (by simp)
   rw [hpass, hat, Bool.true_and] at htk
   cases hin : inB r.key key e with
   | false =>
    rw [hin, if_neg (by simp)] at htk
    refine rN ?_ (V t0<|V t1<|V t2<|V t3<|V t9<|V t10<|V gro<|w1)
    refine ⟨Q.length - (i + 1), by omega, i + 1, v, rfl, rfl, hi, by exact sT, by exact sT, by exact sT, by exact sT, by exact sT, by exact sT, oo.t (o02.t o3), by rw [htk]; exact g3⟩
   | true =>
    rw [hin, if_pos rfl] at htk
    obtain ⟨h4, h4e⟩ : ∃ h4, h4 = h3.newCells 90 (itC (rItOf m r)) := ⟨_, rfl⟩
    have o4 : Only h3 h4 []:= by rw [h4e]; exact (Only.refl _ _).new _ _
    have x4 : h4.nx = h3.nx + 1:= by rw [h4e]; rfl
    have hrow : h4.row h3.nx 0 5 = some (itC (rItOf m r)) := row_ok (o := 0) (cs := itC (rItOf m r)) (fun j hj => by rw [h4e, cellAt_new, Nat.zero_add, if_pos rfl]) (by simp [itC])
    have h4e' := h4e
    unfold itC rItOf at h4e'
    simp only [itC, rItOf, List.getElem?_cons_zero, List.getElem?_cons_succ] at q30 q31 q32 q33 q34
    refine rN ?_ (V t0<|V t1<|V t2<|V t3<|V t9<|V t10<|V gro<|V w1<|V q30<|V q31<|V q32<|V q33<|V q34<|V h4e'.symm<|hrow)
    have g4 : Grows 5 h0.nx h4 v _ _ := g3.of_get o4.1 (fun c e => o4.2 c (g3.base e).2 (by simp))
    have hln := rIts_len m key e (Q.take i)
    rw [List.length_take] at hln
    refine exW_grows (m := 1) (new := itC (rItOf m r)) g4 (by omega) (by omega) (by omega) rfl (by omega) (fun v5 h5 g5 x5 old5 blk5 => ?_)
    have g5o := g5.one
    refine rN ?_ (V t0<|V t1<|V t2<|V t3<|V t9<|V t10<|V g5o<|w1)
    refine ⟨Q.length - (i + 1), by omega, i + 1, v5, rfl, rfl, hi, by exact sT, by exact sT, by exact sT, by exact sT, by exact sT, by exact sT, ?_, by rw [htk, List.length_append]; rw [itsC_snoc] at g5; exact g5⟩
    have o04 := oo.t (o02.t (o3.t o4))
    exact ⟨by omega, fun c hc _ => by rw [old5 c (by omega) (fun e => by have := (g4.base e).1; omega), o04.2 c hc (by simp)]⟩
 ·have d1 : decide (i < Q.length) = false := decide_eq_false hi
  obtain rfl : i = Q.length:= by omega
  rw [List.take_length] at gr
  refine rN ?_ (V t0<|V t1<|V t2<|V t3<|V t9<|V t10<|V c0<|V hso<|V hlen<|V d1<|gro)
  exact ⟨oo, gr⟩
end
end Go.Proofs.YtlkngpckibidlaaGreat.X

namespace Go.Proofs.YtlkngpckibidlaaGreat.X
open Go Go.AX
noncomputable section
set_option maxRecDepth 100000
structure SmI (h0 : H) (sa sb : AV) (l : List It) (n : Nat) (ds : List Nat) (tm : T AV) (h : H) (i : Nat) : Prop where
 ds : ds = []
 nn : n = l.length - i
 ii : i ≤ l.length
 t0 : tm.get 0 = some sa
 t1 : tm.get 1 = some sb
 t5 : tm.get 5 = some (.int .i64 (.ofNat i))
 hh : h = h0
theorem rSameC (h : H) (sa sb : AV) (l : List It) (ha : SliceAt h sa l.length (itsC l)) (hb : SliceAt h sb l.length (itsC l)) (hz : l.length ≤ 100000) : PushC P (.enter 35 [sa, sb] h) (W.Says h (.bool true)) := by
 have hla := ha.len (P := P) u81
 have hlb := hb.len (P := P) u81
 have hoa := W.SliceAt.one ha
 have hob := W.SliceAt.one hb
 have q1 : decide (l.length = l.length) = true := decide_eq_true rfl
 refine pushC_of_codeW (fn := Tryz.f35) (c := bodyC Tryz.f35) Tryz.func35 rfl ?_
 show codeW P 35 26 none _ _ _ _ _
 refine codeW_root ?_
 refine rN ?_ (V hla<|V hlb<|V q1<|@Bool.not_true)
 refine st_loop (fun n ds tm h' => ∃ i, SmI h sa sb l n ds tm h' i) l.length rfl ⟨0, rfl, rfl, Nat.zero_le _, by exact sT, by exact sT, by exact sT, rfl⟩ (fun n ds tm h' hI => ?_)
 obtain ⟨i, rfl, rfl, ii, t0, t1, t5, rfl⟩ := hI
 by_cases hi : i < l.length
 ·have d1 : decide (i < l.length) = true := decide_eq_true hi
  have lt1 : (i < l.length) = True:= by simp [hi]
  have w1 : wrapF .i64 (Int.ofNat i + Int.ofNat 1) = Int.ofNat (i + 1) := i64_add (by omega)
  obtain ⟨x, hx⟩ : ∃ x, l[i]? = some x := ⟨_, List.getElem?_eq_getElem hi⟩
  obtain ⟨ba, oa, ca, rfl, _, _⟩ := ha.place (by omega)
  obtain ⟨bb, ob, cb, rfl, _, _⟩ := hb.place (by omega)
  obtain ⟨a0, a1, a2, a3, a4⟩ := itC_at ha hx
  obtain ⟨b0, b1, b2, b3, b4⟩ := itC_at hb hx
  rw [Nat.add_assoc] at a1 a2 a3 a4 b1 b2 b3 b4
  have leq : listEqB x.key x.key = true := (listEqB_iff _ _).2 rfl
  refine rT ?_ (V t0<|V t1<|V t5<|V hla<|V d1<|V lt1<|V w1<|V a0<|V a1<|V a2<|V a3<|V a4<|V b0<|V b1<|V b2<|V b3<|V b4<|V leq<|V @Bool.not_true<|@Bool.not_false)
  exact ⟨l.length - (i + 1), by omega, i + 1, rfl, rfl, hi, by exact sT, by exact sT, by exact sT, rfl⟩
 ·
  have d1 : decide (i < l.length) = false := decide_eq_false hi
  refine rN ?_ (V t0<|V t1<|V t5<|V hla<|V hoa<|V hob<|d1)
  exact ⟨rfl, Only.refl _ _⟩
structure ItI (h0 : H) (s : AV) (l : List It) (n : Nat) (ds : List Nat) (tm : T AV) (h : H) (i : Nat) (v : AV) : Prop where
 ds : ds = []
 nn : n = l.length - i
 ii : i ≤ l.length
 t0 : tm.get 0 = some s
 t3 : tm.get 3 = some v
 t4 : tm.get 4 = some (.int .i64 (.ofNat i))
 oo : Only h0 h []
 gr : Grows 5 h0.nx h v i (itsC (l.take i))
theorem rItemsC (h0 : H) (s : AV) (l : List It) (hs : SliceAt h0 s l.length (itsC l)) (hz : l.length ≤ 100000) : PushC P (.enter 36 [s] h0) fun v h' => Only h0 h' [] ∧ Grows 5 h0.nx h' v l.length (itsC l) := by
 have hls := hs.len (P := P) u83
 have hos := W.SliceAt.one hs
 refine pushC_of_codeW (fn := Tryz.f36) (c := bodyC Tryz.f36) Tryz.func36 rfl ?_
 show codeW P 36 36 none _ _ _ _ _
 refine codeW_root ?_
 refine rN0 ?_
 refine st_loop (fun n ds tm h => ∃ i v, ItI h0 s l n ds tm h i v) l.length rfl ⟨0, .nilslice, rfl, rfl, Nat.zero_le _, by exact sT, by exact sT, by exact sT, Only.refl _ _, .none⟩ (fun n ds tm h hI => ?_)
 obtain ⟨i, v, rfl, rfl, ii, t0, t3, t4, oo, gr⟩ := hI
 have gro := gr.one
 have x0 := oo.1
 by_cases hi : i < l.length
 ·have d1 : decide (i < l.length) = true := decide_eq_true hi
  have lt1 : (i < l.length) = True:= by simp [hi]
  have w1 : wrapF .i64 (Int.ofNat i + Int.ofNat 1) = Int.ofNat (i + 1) := i64_add (by omega)
  obtain ⟨x, hx⟩ : ∃ x, l[i]? = some x := ⟨_, List.getElem?_eq_getElem hi⟩
  have hsh := hs.only oo (fun _ _ => by simp)
  obtain ⟨bl, o, cap, rfl, hbl, -⟩ := hs.place (by omega)
  obtain ⟨p0, p1, p2, p3, p4⟩ := itC_at hsh hx
  rw [Nat.add_assoc] at p1 p2 p3 p4
  obtain ⟨h4, h4e⟩ : ∃ h4, h4 = h.newCells 90 (itC x) := ⟨_, rfl⟩
  have o4 : Only h h4 []:= by rw [h4e]; exact (Only.refl _ _).new _ _
  have x4 : h4.nx = h.nx + 1:= by rw [h4e]; rfl
  have hrow : h4.row h.nx 0 5 = some (itC x) := row_ok (o := 0) (cs := itC x) (fun j hj => by rw [h4e, cellAt_new, Nat.zero_add, if_pos rfl]) (by simp [itC])
  have h4e' := h4e
  unfold itC at h4e'
  refine rT ?_ (V t0<|V t3<|V t4<|V hls<|V d1<|V lt1<|V gro<|V p0<|V p1<|V p2<|V p3<|V p4<|V h4e'.symm<|hrow)
  have g4 : Grows 5 h0.nx h4 v _ _ := gr.of_get o4.1 (fun c e => o4.2 c (gr.base e).2 (by simp))
  refine exW_grows (m := 1) (new := itC x) g4 (by omega) (by omega) (by omega) rfl (by omega) (fun v5 h5 g5 x5 old5 blk5 => ?_)
  have g5o := g5.one
  refine rT ?_ (V t0<|V t3<|V t4<|V g5o<|w1)
  have htk : itsC (l.take (i + 1)) = itsC (l.take i) ++ itC x:= by rw [List.take_add_one, hx, itsC_snoc]; rfl
  refine ⟨l.length - (i + 1), by omega, i + 1, v5, rfl, rfl, hi, by exact sT, by exact sT, by exact sT, ?_, by rw [htk]; exact g5⟩
  have o04 := oo.t o4
  exact ⟨by omega, fun c hc _ => by rw [old5 c (by omega) (fun e => by have := (g4.base e).1; omega), o04.2 c hc (by simp)]⟩
 ·
  have d1 : decide (i < l.length) = false := decide_eq_false hi
  obtain rfl : i = l.length:= by omega
  rw [List.take_length] at gr
  refine rN ?_ (V t0<|V t3<|V t4<|V hls<|V hos<|V d1<|gro)
  exact ⟨oo, gr⟩
end
end Go.Proofs.YtlkngpckibidlaaGreat.X

namespace Go.Proofs.YtlkngpckibidlaaGreat.W
open Go Go.AX
noncomputable section
theorem atK_all {L : List Gn} {A : List Ch} (ha : all L = A) (m : Nat) : atK L m = atA A m ∧ atB L m = atT A m := by
 rw [atK_isK, atB_isK, ha]; exact ⟨rfl, rfl⟩
set_option maxHeartbeats 1000000 in
theorem all_putP {L : List Gn} {A : List Ch} (hw : WF L) (ha : all L = A) (r : Rv) : all (putP L r) = putA A r ∧ putE L r = putAE A r ∧ WF (putP L r) := by
 subst ha
 unfold putP putA putE putAE
 rw [fits_all]
 cases fitA (all L) r with
 | true => exact ⟨all_putL hw _ _ _, rfl, wf_put hw _ _ _⟩
 | false => exact ⟨rfl, rfl, hw⟩
theorem all_tombP {L : List Gn} {A : List Ch} (hw : WF L) (ha : all L = A) (r : Rv) : all (tombP L r) = tombA A r ∧ tombE L r = tombAE A r ∧ WF (tombP L r) := by
 subst ha
 unfold tombP tombA tombE tombAE
 rw [fits_all, opn_all hw]
 cases fitA (all L) r with
 | true =>
  cases ho : opnA (all L) with
  | true => exact ⟨all_tombL hw (by rw [opn_all hw]; exact ho) _, rfl, wf_tomb hw _⟩
  | false => exact ⟨rfl, rfl, hw⟩
 | false => exact ⟨rfl, rfl, hw⟩
theorem all_restP {L : List Gn} {A : List Ch} (hw : WF L) (ha : all L = A) (r : Rv) (made nth : Nat) : all (restP L r made nth) = restAP A r made nth ∧ restE L r made nth = restAE A r made nth ∧ WF (restP L r made nth) := by
 subst ha
 unfold restP restAP restE restAE
 rw [rest_all L hw]
 cases restA (all L) r made nth with
 | true => exact ⟨all_putL hw _ _ _, rfl, wf_put hw _ _ _⟩
 | false => exact ⟨rfl, rfl, hw⟩
structure Bo (n : Nat) (L : List Gn) (A : List Ch) : Prop where
 wf : WF L
 al : all L = A
 ri : Rising A
 le : A.length ≤ n
theorem bo_put {n : Nat} {L : List Gn} {A : List Ch} (h : Bo n L A) (r : Rv) : Bo (n + 1) (putP L r) (putA A r) ∧ putE L r = putAE A r := by
 obtain ⟨e1, e2, e3⟩ := all_putP h.wf h.al r
 refine ⟨⟨e3, e1, ?_, ?_⟩, e2⟩
 ·unfold putA; split
  ·rename_i q; exact rising_snoc h.ri (by rw [(nextA_rev _ _ _ _).1]; exact q)
  ·exact h.ri
 ·have := h.le
  unfold putA; split
  ·simp; omega
  ·omega
theorem bo_tomb {n : Nat} {L : List Gn} {A : List Ch} (h : Bo n L A) (r : Rv) : Bo (n + 1) (tombP L r) (tombA A r) ∧ tombE L r = tombAE A r := by
 obtain ⟨e1, e2, e3⟩ := all_tombP h.wf h.al r
 refine ⟨⟨e3, e1, ?_, ?_⟩, e2⟩
 ·unfold tombA; split
  ·rename_i q; rw [Bool.and_eq_true] at q; exact rising_snoc h.ri q.1
  ·exact h.ri
 ·have := h.le
  unfold tombA; split
  ·simp; omega
  ·omega
theorem bo_rest {n : Nat} {L : List Gn} {A : List Ch} (h : Bo n L A) (r : Rv) (made nth : Nat) : Bo (n + 1) (restP L r made nth) (restAP A r made nth) ∧ restE L r made nth = restAE A r made nth := by
 obtain ⟨e1, e2, e3⟩ := all_restP h.wf h.al r made nth
 refine ⟨⟨e3, e1, ?_, ?_⟩, e2⟩
 ·unfold restAP; split
  ·rename_i q
   refine rising_snoc h.ri ?_
   rw [(nextA_rev _ _ _ _).1]
   unfold restA at q
   simp only [Bool.and_eq_true] at q
   exact q.1.1.1.1
  ·exact h.ri
 ·have := h.le
  unfold restAP; split
  ·simp; omega
  ·omega
theorem bo_comp {n : Nat} {L : List Gn} {A : List Ch} (h : Bo n L A) (m : Nat) : Bo (n + 1) (compL L m) (compA A m) ∧ compK L m = (isK A m).map (·.rev) := by
 refine ⟨⟨wf_comp h.wf m, by rw [all_compL m (by rw [h.al]; exact h.ri), h.al], rising_comp h.ri m, ?_⟩, by rw [compK_isK, h.al]⟩
 rw [compA_filter m h.ri]
 exact Nat.le_trans (List.length_filter_le _ _) (Nat.le_succ_of_le h.le)
theorem Bo.nil (n : Nat) : Bo n [] [] := ⟨wf_nil, rfl, List.Pairwise.nil, Nat.zero_le _⟩
theorem Bo.up {n : Nat} {L : List Gn} {A : List Ch} (h : Bo n L A) : Bo (n + 1) L A := ⟨h.wf, h.al, h.ri, Nat.le_succ_of_le h.le⟩
theorem Bo.ne {n : Nat} {L : List Gn} {A : List Ch} (h : Bo n L A) (hA : A ≠ []) : L ≠ [] := fun e => by
 have := h.al
 rw [e] at this
 exact hA (by rw [← this]; rfl)
theorem putE_ne {A : List Ch} {r : Rv} (h : putAE A r = 0) : putA A r ≠ [] := by
 unfold putAE at h; unfold putA
 split at h
 ·rename_i q; rw [if_pos q]; simp
 ·cases h
theorem tombE_ne {A : List Ch} {r : Rv} (h : tombAE A r = 0) : tombA A r ≠ [] := by
 unfold tombAE at h; unfold tombA
 split at h
 ·rename_i q
  split at h
  ·rename_i q2; rw [q, q2]; simp
  ·cases h
 ·cases h
theorem restE_ne {A : List Ch} {r : Rv} {a n : Nat} (h : restAE A r a n = 0) : restAP A r a n ≠ [] := by
 unfold restAE at h; unfold restAP
 split at h
 ·rename_i q; rw [if_pos q]; simp
 ·cases h
end
end Go.Proofs.YtlkngpckibidlaaGreat.W
namespace Go.Proofs.YtlkngpckibidlaaGreat.X
open Go Go.AX
noncomputable section
theorem at_key0 {R : List Pr} (hs : Srt R) {i : Nat} {p : Pr} (hp : R[i]? = some p) : atK p.key R = i := by
 have h1 : ¬ i < atK p.key R := fun q => by have := (at_iff (k := p.key) hs hp).2 q; rw [lt_irr] at this; cases this
 obtain ⟨hi, hpi⟩ := List.getElem?_eq_some_iff.1 hp
 rcases Nat.lt_trichotomy (atK p.key R) i with q | q | q
 ·exfalso
  obtain ⟨y, hy⟩ : ∃ y, R[atK p.key R]? = some y := ⟨_, List.getElem?_eq_getElem (by omega)⟩
  obtain ⟨hj, hyj⟩ := List.getElem?_eq_some_iff.1 hy
  have := List.pairwise_iff_getElem.1 hs _ _ hj hi q
  rw [hyj, hpi] at this
  have := (at_iff (k := p.key) hs hy).1 this
  omega
 ·exact q
 ·exact absurd q h1
def pK (p : Pr) : List Nat × List W.Ch := (p.key, W.all p.L)
def rK (r : RR) : List Nat × List W.Ch := (r.key, r.A)
structure Twin (n : Nat) (R : List Pr) (Q : List RR) : Prop where
 sr : Srt R
 eq : R.map pK = Q.map rK
 bo : ∀ p, p ∈ R → W.Bo n p.L (W.all p.L)
 le : R.length ≤ n
theorem at_tw (k : List Nat) : ∀ {R : List Pr} {Q : List RR}, R.map pK = Q.map rK → atK k R = rAt k Q
 | [], [], _ => rfl
 | [], r :: Q, h => by simp at h
 | p :: R, [], h => by simp at h
 | p :: R, r :: Q, h => by
  rw [List.map_cons, List.map_cons, List.cons.injEq] at h
  have e : p.key = r.key := congrArg Prod.fst h.1
  have ih := at_tw k h.2
  unfold atK
  unfold rAt at ih ⊢
  rw [List.takeWhile_cons, e, ih]
  split <;> simp
theorem Twin.get {n : Nat} {R : List Pr} {Q : List RR} (h : Twin n R Q) (i : Nat) : (R[i]?).map pK = (Q[i]?).map rK:= by rw [← List.getElem?_map, ← List.getElem?_map, h.eq]
theorem Twin.len {n : Nat} {R : List Pr} {Q : List RR} (h : Twin n R Q) : R.length = Q.length := by
 have := congrArg List.length h.eq
 simpa using this
theorem Twin.at {n : Nat} {R : List Pr} {Q : List RR} (h : Twin n R Q) (k : List Nat) : atK k R = rAt k Q := at_tw k h.eq
theorem Twin.gl {n : Nat} {R : List Pr} {Q : List RR} (h : Twin n R Q) (k : List Nat) : W.Bo n (getL k R) (refL k Q) := by
 have hg := h.get (rAt k Q)
 unfold getL refL
 rw [h.at k]
 cases hR : R[rAt k Q]? with
 | none =>
  rw [hR] at hg
  cases hQ : Q[rAt k Q]? with
  | none => exact .nil n
  | some r => rw [hQ] at hg; cases hg
 | some p =>
  rw [hR] at hg
  cases hQ : Q[rAt k Q]? with
  | none => rw [hQ] at hg; cases hg
  | some r =>
   rw [hQ, Option.map_some, Option.map_some, Option.some.injEq] at hg
   have e1 : p.key = r.key := congrArg Prod.fst hg
   have e2 : W.all p.L = r.A := congrArg Prod.snd hg
   have hb := h.bo p (List.mem_of_getElem? hR)
   rw [e2] at hb
   simp only [e1]
   split
   ·exact hb
   ·exact .nil n
theorem Twin.is {n : Nat} {R : List Pr} {Q : List RR} (h : Twin n R Q) (k : List Nat) : isK k R = rIs k Q := by
 have hg := h.get (rAt k Q)
 unfold isK rIs
 rw [h.at k]
 cases hR : R[rAt k Q]? with
 | none =>
  rw [hR] at hg
  cases hQ : Q[rAt k Q]? with
  | none => rfl
  | some r => rw [hQ] at hg; cases hg
 | some p =>
  rw [hR] at hg
  cases hQ : Q[rAt k Q]? with
  | none => rw [hQ] at hg; cases hg
  | some r =>
   rw [hQ, Option.map_some, Option.map_some, Option.some.injEq] at hg
   have e1 : p.key = r.key := congrArg Prod.fst hg
   simp only [e1]
theorem setI_eq (k : List Nat) (L : List W.Gn) (v : AV) (R : List Pr) : setI k L v R = R.take (atK k R) ++ ⟨k, L, v⟩ :: R.drop (atK k R + if isK k R then 1 else 0) := by
 unfold setI
 cases hi : isK k R with
 | false => rfl
 | true =>
  have hl : atK k R < R.length := by
   unfold isK at hi
   split at hi
   ·rename_i p hp; exact (List.getElem?_eq_some_iff.1 hp).1
   ·cases hi
  rw [if_pos rfl, if_pos rfl, List.set_eq_take_append_cons_drop, if_pos hl]
theorem Twin.nil (n : Nat) : Twin n [] [] := ⟨List.Pairwise.nil, rfl, fun _ h => (by cases h), Nat.zero_le _⟩
theorem Twin.up {n : Nat} {R : List Pr} {Q : List RR} (h : Twin n R Q) : Twin (n + 1) R Q := ⟨h.sr, h.eq, fun p hp => (h.bo p hp).up, Nat.le_succ_of_le h.le⟩
theorem srt_setI {R : List Pr} (hs : Srt R) (k : List Nat) (L : List W.Gn) (v : AV) : Srt (setI k L v R) := by
 unfold setI
 cases hi : isK k R with
 | false => exact srt_ins hs hi rfl
 | true =>
  have h2 := hi
  unfold isK at h2
  split at h2
  ·rename_i p hp
   exact srt_set hs hp (by simpa using (of_decide_eq_true h2).symm)
  ·cases h2
theorem Twin.set {n : Nat} {R : List Pr} {Q : List RR} (h : Twin n R Q) {k : List Nat} {L : List W.Gn} {A : List W.Ch} (v g : AV) (hb : W.Bo (n + 1) L A) (hA : A ≠ []) : Twin (n + 1) (setI k L v R) (setR k A g Q) := by
 have hS := setI_eq k L v R
 refine ⟨srt_setI h.sr k L v, ?_, fun p hp => ?_, ?_⟩
 ·rw [hS]
  unfold setR
  rw [if_neg hA, h.at k, h.is k]
  simp only [List.map_append, List.map_take, List.map_drop, List.map_cons, List.map_nil, h.eq]
  have : pK ⟨k, L, v⟩ = rK ⟨k, A, g⟩:= by unfold pK rK; simp only [hb.al]
  rw [this]; simp
 ·rw [hS] at hp
  rcases List.mem_append.1 hp with q | q
  ·exact (h.bo p (List.mem_of_mem_take q)).up
  ·rcases List.mem_cons.1 q with q | q
   ·subst q; rw [hb.al]; exact hb
   ·exact (h.bo p (List.mem_of_mem_drop q)).up
 ·have := h.le
  rw [hS]
  simp only [List.length_append, List.length_take, List.length_cons, List.length_drop]
  omega
theorem Twin.put {n : Nat} {R : List Pr} {Q : List RR} (h : Twin n R Q) (k : List Nat) (r : W.Rv) (v g : AV) : W.putE (getL k R) r = W.putAE (refL k Q) r ∧ Twin (n + 1) (if W.putE (getL k R) r = 0 then setI k (W.putP (getL k R) r) v R else R) (if W.putAE (refL k Q) r = 0 then setR k (W.putA (refL k Q) r) g Q else Q) := by
 obtain ⟨h1, h2⟩ := W.bo_put (h.gl k) r
 refine ⟨h2, ?_⟩
 rw [h2]
 split
 ·rename_i q; exact h.set v g h1 (W.putE_ne q)
 ·exact h.up
theorem Twin.tomb {n : Nat} {R : List Pr} {Q : List RR} (h : Twin n R Q) (k : List Nat) (r : W.Rv) (v g : AV) : W.tombE (getL k R) r = W.tombAE (refL k Q) r ∧ Twin (n + 1) (if W.tombE (getL k R) r = 0 then setI k (W.tombP (getL k R) r) v R else R) (if W.tombAE (refL k Q) r = 0 then setR k (W.tombA (refL k Q) r) g Q else Q) := by
 obtain ⟨h1, h2⟩ := W.bo_tomb (h.gl k) r
 refine ⟨h2, ?_⟩
 rw [h2]
 split
 ·rename_i q; exact h.set v g h1 (W.tombE_ne q)
 ·exact h.up
theorem Twin.rest {n : Nat} {R : List Pr} {Q : List RR} (h : Twin n R Q) (k : List Nat) (r : W.Rv) (a m : Nat) (v g : AV) : W.restE (getL k R) r a m = W.restAE (refL k Q) r a m ∧ Twin (n + 1) (if W.restE (getL k R) r a m = 0 then setI k (W.restP (getL k R) r a m) v R else R) (if W.restAE (refL k Q) r a m = 0 then setR k (W.restAP (refL k Q) r a m) g Q else Q) := by
 obtain ⟨h1, h2⟩ := W.bo_rest (h.gl k) r a m
 refine ⟨h2, ?_⟩
 rw [h2]
 split
 ·rename_i q; exact h.set v g h1 (W.restE_ne q)
 ·exact h.up
theorem lt_snoc0 : ∀ (a k : List Nat), listLtB a (k ++ [0]) = !listLtB k a
 | [], [] => rfl
 | [], y :: k => rfl
 | x :: a, [] => by
  have h1 : listLtB [] (x :: a) = true := rfl
  rw [h1, List.nil_append, Bool.not_true, ← Bool.not_eq_true, lt_cons]
  rintro (h | ⟨_, h⟩)
  ·omega
  ·cases a <;> cases h
 | x :: a, y :: k => by
  have ih := lt_snoc0 a k
  have e1 : (listLtB (x :: a) (y :: (k ++ [0])) = true) ↔ ¬ (listLtB (y :: k) (x :: a) = true) := by
   rw [lt_cons, lt_cons, ih]
   cases listLtB k a <;> simp <;> omega
  rw [List.cons_append]
  cases q : listLtB (y :: k) (x :: a) with
  | false => rw [q] at e1; exact e1.2 (by simp)
  | true => rw [q] at e1; rw [Bool.not_true, ← Bool.not_eq_true]; exact fun h => e1.1 h rfl
theorem in_from (k e : List Nat) (p : Pr) : (!listLtB p.key k && passB (endL k e) (lastB e) p) = inB p.key k e := by
 unfold passB endL lastB inB
 by_cases h : e = []
 ·subst h
  simp only [if_true]
  have : decide (([] : List Nat) = [0]) = false := rfl
  rw [this, Bool.false_or, lt_snoc0]
  rcases lt_tri p.key k with q | q | q
  ·have := lt_asym q
   rw [q]
   have : p.key ≠ k := fun e => by rw [e, lt_irr] at q; cases q
   simp [this]
  ·rw [q, lt_irr]; simp
  ·have h2 := lt_asym q
   have : p.key ≠ k := fun e => by rw [e, lt_irr] at q; cases q
   simp [this, q]
 ·rw [if_neg h, if_neg h]
theorem from_filter (k e : List Nat) (last : Bool) : ∀ {R : List Pr}, Srt R → fromL k e last R = R.filter fun p => !listLtB p.key k && passB e last p
 | [], _ => rfl
 | p :: R, hs => by
  have hc := List.pairwise_cons.1 hs
  have ih := from_filter k e last hc.2
  unfold fromL at ih ⊢
  unfold atK
  cases h1 : listLtB p.key k with
  | true =>
   rw [if_pos rfl, List.drop_succ_cons, ih, List.filter_cons]
   simp [h1]
  | false =>
   have hge : ∀ q, q ∈ R → listLtB q.key k = false := fun q hq => by
    cases h2 : listLtB q.key k with
    | false => rfl
    | true => have := lt_trans (hc.1 q hq) h2; rw [h1] at this; cases this
   rw [if_neg (by simp), List.drop_zero, List.takeWhile_cons, List.filter_cons]
   cases h3 : passB e last p with
   | true =>
    simp only [h1, Bool.not_false, Bool.true_and, if_true]
    congr 1
    rw [← ih]
    have : atK k R = 0 := by
     cases R with
     | nil => rfl
     | cons q R => unfold atK; rw [hge q (by simp)]; simp
    rw [this, List.drop_zero]
   | false =>
    simp only [h1, Bool.not_false, Bool.true_and, Bool.false_eq_true, if_false]
    symm
    rw [List.filter_eq_nil_iff]
    intro q hq
    unfold passB at h3 ⊢
    rw [Bool.or_eq_false_iff] at h3
    rw [h3.1, hge q hq]
    cases h2 : listLtB q.key e with
    | false => simp
    | true => have := lt_trans (hc.1 q hq) h2; rw [h3.2] at this; cases this
theorem itOf_eq {n : Nat} {p : Pr} {r : RR} (h : pK p = rK r) (m : Nat) : itOf m p = rItOf m r ∧ W.atB p.L m = W.atT r.A m := by
 have e1 : p.key = r.key := congrArg Prod.fst h
 have e2 : W.all p.L = r.A := congrArg Prod.snd h
 obtain ⟨h1, h2⟩ := W.atK_all e2 m
 refine ⟨?_, h2⟩
 unfold itOf rItOf
 rw [h1, e1]
theorem its_tw (m : Nat) (f : List Nat → Bool) : ∀ {R : List Pr} {Q : List RR}, R.map pK = Q.map rK → (R.filter fun p => W.atB p.L m && f p.key).map (itOf m) = (Q.filter fun r => W.atT r.A m && f r.key).map (rItOf m)
 | [], [], _ => rfl
 | [], r :: Q, h => by simp at h
 | p :: R, [], h => by simp at h
 | p :: R, r :: Q, h => by
  rw [List.map_cons, List.map_cons, List.cons.injEq] at h
  obtain ⟨h1, h2⟩ := itOf_eq (n := 0) h.1 m
  have e1 : p.key = r.key := congrArg Prod.fst h.1
  have ih := its_tw m f h.2
  rw [List.filter_cons, List.filter_cons, h2, e1]
  split
  ·rw [List.map_cons, List.map_cons, h1, ih]
  ·exact ih
theorem Twin.range {n : Nat} {R : List Pr} {Q : List RR} (h : Twin n R Q) (k e : List Nat) (m : Nat) : rangeI k e m R = rItsL m k e Q := by
 unfold rangeI rItsL itsL rPass
 rw [from_filter _ _ _ h.sr, List.filter_filter, ← its_tw m (fun x => inB x k e) h.eq]
 congr 1
 refine List.filter_congr fun p _ => ?_
 rw [in_from]
theorem Twin.item {n : Nat} {R : List Pr} {Q : List RR} (h : Twin n R Q) (k : List Nat) (m : Nat) : itV k (getL k R) m = rItV k (refL k Q) m ∧ W.atB (getL k R) m = W.atT (refL k Q) m := by
 obtain ⟨h1, h2⟩ := W.atK_all (h.gl k).al m
 refine ⟨?_, h2⟩
 unfold itV rItV
 rw [h1, h2]
def rCompR (m : Nat) (Q : List RR) : List (List Nat × List W.Ch) := Q.filterMap fun r => if (W.compA r.A m).isEmpty then none else some (r.key, W.compA r.A m)
theorem comp_tw {n : Nat} (m : Nat) : ∀ {R : List Pr} {Q : List RR}, (∀ p, p ∈ R → W.Bo n p.L (W.all p.L)) → R.map pK = Q.map rK → (compR m R).map (fun x => (x.1, W.all x.2)) = rCompR m Q
 | [], [], _, _ => rfl
 | [], r :: Q, _, h => by simp at h
 | p :: R, [], _, h => by simp at h
 | p :: R, r :: Q, hb, h => by
  rw [List.map_cons, List.map_cons, List.cons.injEq] at h
  have e1 : p.key = r.key := congrArg Prod.fst h.1
  have e2 : W.all p.L = r.A := congrArg Prod.snd h.1
  have ih := comp_tw (n := n) m (fun q hq => hb q (List.mem_cons_of_mem _ hq)) h.2
  have h1 := hb p (by simp)
  rw [e2] at h1
  have h2 := (W.bo_comp h1 m).1
  have h3 : (W.compL p.L m).isEmpty = (W.compA r.A m).isEmpty:= by rw [W.empty_all h2.wf, h2.al]
  unfold compR rCompR at ih ⊢
  rw [List.filterMap_cons, List.filterMap_cons, h3]
  cases h4 : (W.compA r.A m).isEmpty with
  | true => simp only [if_true]; exact ih
  | false =>
   simp only [Bool.false_eq_true, if_false]
   rw [List.map_cons, ih, e1, h2.al]
theorem Twin.comp {n : Nat} {R X : List Pr} {Q Y : List RR} (h : Twin n R Q) {m : Nat} (hX : X.map kl = compR m R) (hY : Y.map rK = rCompR m Q) : Twin (n + 1) X Y := by
 refine ⟨compR_srt m h.sr hX, ?_, fun p hp => ?_, ?_⟩
 ·rw [hY, ← comp_tw m h.bo h.eq, ← hX, List.map_map]; rfl
 ·have : kl p ∈ compR m R:= by rw [← hX]; exact List.mem_map_of_mem hp
  unfold compR at this
  obtain ⟨q, hq, e⟩ := List.mem_filterMap.1 this
  split at e
  ·cases e
  ·have e2 : W.compL q.L m = p.L := congrArg Prod.snd (Option.some.inj e)
   have h2 := (W.bo_comp (h.bo q hq) m).1
   rw [e2] at h2
   rw [h2.al]; exact h2
 ·have := congrArg List.length hX
  rw [List.length_map] at this
  have := compR_len m R
  have := h.le
  omega
theorem Twin.ref {n : Nat} {R : List Pr} {Q : List RR} (h : Twin n R Q) {r : RR} (hr : r ∈ Q) : refL r.key Q = r.A ∧ W.Rising r.A ∧ r.A.length ≤ n := by
 obtain ⟨i, hi⟩ := List.getElem?_of_mem hr
 have hg := h.get i
 rw [hi] at hg
 cases hR : R[i]? with
 | none => rw [hR] at hg; cases hg
 | some p =>
  rw [hR, Option.map_some, Option.map_some, Option.some.injEq] at hg
  have e1 : p.key = r.key := congrArg Prod.fst hg
  have e2 : W.all p.L = r.A := congrArg Prod.snd hg
  have hb := h.bo p (List.mem_of_getElem? hR)
  rw [e2] at hb
  refine ⟨?_, hb.ri, hb.le⟩
  have hat : rAt r.key Q = i := by
   rw [← h.at, ← e1]
   exact at_key0 h.sr hR
  unfold refL
  rw [hat, hi]; simp
end
end Go.Proofs.YtlkngpckibidlaaGreat.X

namespace Go.Proofs.YtlkngpckibidlaaGreat.X
open Go Go.AX
noncomputable section
set_option maxRecDepth 100000
def insAt (r : W.Rv) (out : List W.Rv) : Nat := (out.takeWhile fun x => W.above r x).length
def insR (r : W.Rv) (out : List W.Rv) : List W.Rv := out.take (insAt r out) ++ [r] ++ out.drop (insAt r out)
def insAll (l : List W.Rv) : List W.Rv := l.foldl (fun out r => insR r out) []
def rKeptL (m : Nat) (Q : List RR) : List W.Rv := insAll ((Q.filter fun r => W.atT r.A m).map fun r => (W.atA r.A m).rev)
theorem rKept_take {m : Nat} {Q : List RR} {k : Nat} {r : RR} (hr : Q[k]? = some r) : rKeptL m (Q.take (k + 1)) = if W.atT r.A m then insR (W.atA r.A m).rev (rKeptL m (Q.take k)) else rKeptL m (Q.take k) := by
 unfold rKeptL insAll
 rw [List.take_add_one, hr, List.filter_append, List.map_append, List.foldl_append]
 by_cases q : W.atT r.A m = true
 ·simp [q]
 ·simp [q]
theorem insR_len (r : W.Rv) (out : List W.Rv) : (insR r out).length = out.length + 1 := by
 unfold insR
 have : insAt r out ≤ out.length := (List.takeWhile_sublist _).length_le
 simp; omega
theorem insAll_len (l : List W.Rv) : (insAll l).length = l.length := by
 unfold insAll
 have : ∀ (l : List W.Rv) (o : List W.Rv), (l.foldl (fun out r => insR r out) o).length = o.length + l.length := by
  intro l
  induction l with
  | nil => intro o; rfl
  | cons a l ih => intro o; rw [List.foldl_cons, ih, insR_len, List.length_cons]; omega
 rw [this]; simp
theorem rKept_len (m : Nat) (Q : List RR) : (rKeptL m Q).length ≤ Q.length:= by unfold rKeptL; rw [insAll_len, List.length_map]; exact List.length_filter_le _ _
theorem insAt_lt {r : W.Rv} : ∀ {out : List W.Rv} {i : Nat} {x : W.Rv}, i < insAt r out → out[i]? = some x → W.above r x = true
 | [], i, x, _, hr => by simp at hr
 | a :: out, i, x, hi, hr => by
  unfold insAt at hi
  rw [List.takeWhile_cons] at hi
  split at hi
  ·rename_i ha
   cases i with
   | zero => simp at hr; subst hr; exact ha
   | succ i => simp at hr hi; exact insAt_lt (out := out) (by unfold insAt; omega) hr
  ·simp at hi
theorem insAt_end {r : W.Rv} : ∀ {out : List W.Rv} {x : W.Rv}, out[insAt r out]? = some x → W.above r x = false
 | [], x, hr => by simp at hr
 | a :: out, x, hr => by
  unfold insAt at hr
  rw [List.takeWhile_cons] at hr
  split at hr
  ·simp at hr; exact insAt_end (out := out) (by unfold insAt; exact hr)
  ·rename_i ha
   simp at hr; subst hr; simpa using ha
theorem rvs_take2 (l : List W.Rv) : ∀ i, W.rvsC (l.take i) = (W.rvsC l).take (i * 2) := by
 induction l with
 | nil => intro i; simp [W.rvsC]
 | cons a l ih =>
  intro i
  cases i with
  | zero => simp [W.rvsC]
  | succ i =>
   have : (i + 1) * 2 = i * 2 + 1 + 1:= by omega
   rw [this]
   have h2 := ih i
   simp only [W.rvsC] at h2
   simp [W.rvsC, W.rvC, h2]
theorem rvs_drop2 (l : List W.Rv) : ∀ i, W.rvsC (l.drop i) = (W.rvsC l).drop (i * 2) := by
 induction l with
 | nil => intro i; simp [W.rvsC]
 | cons a l ih =>
  intro i
  cases i with
  | zero => simp [W.rvsC]
  | succ i =>
   have : (i + 1) * 2 = i * 2 + 1 + 1:= by omega
   rw [this]
   have h2 := ih i
   simp only [W.rvsC] at h2
   simp [W.rvsC, W.rvC, h2]
theorem rvs_app2 (l k : List W.Rv) : W.rvsC (l ++ k) = W.rvsC l ++ W.rvsC k:= by simp [W.rvsC]
structure Stop33 (p : Prop) : Prop where
 go : p
theorem stop33 {ds : List Nat} {tm : T AV} {h : H} {Q : KQ} (hw : Stop33 (codeW P 33 67 none (codeI (bodyC Tryz.f33) [1, 1, 1, 1, 0, 0, 1, 0, 0, 1, 0, 1, 1]) ds tm h Q)) : codeW P 33 67 none (codeI (bodyC Tryz.f33) [1, 1, 1, 1, 0, 0, 1, 0, 0, 1, 0, 1, 1]) ds tm h Q := hw.go
theorem keptTail (h0 h : H) (c : Nat) (v : AV) (rv : W.Rv) (out : List W.Rv) (hb : h0.nx ≤ h.nx) (gr : Grows 2 h0.nx h v out.length (W.rvsC out)) (hz : out.length ≤ 100000) (hc : c < h.nx) (k1 : cellAt h c 1 = some (.int .u64 (.ofNat rv.1))) (k2 : cellAt h c 2 = some (.int .u64 (.ofNat rv.2)))
  (tm : T AV) (t5 : tm.get 5 = some v) (t7 : tm.get 7 = some (.ptr c 0)) (t9 : tm.get 9 = some (.int .i64 (.ofNat (insAt rv out)))) (K : KQ)
  (hK : ∀ tm2 h2 v2, tm2.get 0 = tm.get 0 → tm2.get 1 = tm.get 1 → tm2.get 6 = tm.get 6 → tm2.get 5 = some v2 → h.nx ≤ h2.nx → (∀ b, b < h0.nx → h2.t.get b = h.t.get b) → Grows 2 h0.nx h2 v2 (insR rv out).length (W.rvsC (insR rv out)) → K .norm [] tm2 h2) :
  codeW P 33 67 none (codeI (bodyC Tryz.f33) [1, 1, 1, 1, 0, 0, 1, 0, 0, 1, 0, 1, 1]) [] tm h K := by
 have gro := gr.one
 have hle : insAt rv out ≤ out.length := (List.takeWhile_sublist _).length_le
 obtain ⟨v2, hsl, v2o, happ⟩ := appHi (t := 42) (e := 31) u42 (by kernel_rfl) (by kernel_rfl) (by kernel_rfl) gr (i := insAt rv out) hle (by omega)
 obtain ⟨v2b, hslb, v2ob, happb⟩ := appLo (t := 42) (e := 31) u42 (by kernel_rfl) (by kernel_rfl) (by kernel_rfl) gr (i := insAt rv out) hle (by omega)
 refine rN ?_ (V t5<|V t7<|V t9<|V gro<|V @ex_sl_h<|V hsl<|v2o)
 with_reducible refine happ h.nx .nilslice 0 [] Grows.none (Nat.le_refl _) (by omega) _ (fun v3 h3 g3 x3 old3 bl3 => ?_)
 have g3o := g3.one
 have o3 : Only h h3 [] := ⟨x3, fun c hc _ => old3 c hc (by simp [blkOf])⟩
 have k13 := W.kcell k1 o3 hc (by simp)
 have k23 := W.kcell k2 o3 hc (by simp)
 rw [Nat.zero_add, List.nil_append, ← rvs_take2] at g3
 obtain ⟨h4, h4e⟩ : ∃ h4, h4 = h3.newCells 31 (W.rvC rv) := ⟨_, rfl⟩
 have o4 : Only h3 h4 []:= by rw [h4e]; exact (Only.refl _ _).new _ _
 have x4 : h4.nx = h3.nx + 1:= by rw [h4e]; rfl
 have hrow : h4.row h3.nx 0 2 = some (W.rvC rv) := row_ok (o := 0) (cs := W.rvC rv) (fun j hj => by rw [h4e, cellAt_new, Nat.zero_add, if_pos rfl]) (by simp [W.rvC])
 have h4e' := h4e
 unfold W.rvC at h4e'
 refine rN ?_ (V t5<|V t7<|V t9<|V gro<|V g3o<|V k13<|V k23<|V h4e'.symm<|hrow)
 have g4 : Grows 2 h.nx h4 v3 _ _ := g3.of_get o4.1 (fun c e => o4.2 c (g3.base e).2 (by simp))
 refine exW_grows (m := 1) (new := W.rvC rv) g4 (by omega) (by omega) (by omega) rfl (by omega) (fun v5 h5 g5 x5 old5 blk5 => ?_)
 have g5o := g5.one
 have o5 : Only h h5 [] := ⟨by omega, fun c hc _ => by rw [old5 c (by omega) (fun e => by have := (g4.base e).1; omega), o4.2 c (by omega) (by simp), o3.2 c hc (by simp)]⟩
 refine rN ?_ (V t5<|V t7<|V t9<|V gro<|V g5o<|V @ex_sl_l<|V hslb<|v2ob)
 have ov5 : ∀ c, blkOf v = some c → h5.t.get c = h.t.get c := fun c e => o5.2 c (gr.base e).2 (by simp)
 have xo5 : h.nx ≤ h5.nx := o5.1
 have hln : insAt rv out + 1 ≤ 1000000:= by omega
 with_reducible refine happb h5 ov5 xo5 h.nx v5 (insAt rv out + 1) _ g5 xo5 hln _ (fun v6 h6 g6 x6 old6 bl6 => ?_)
 have g6o := g6.one
 refine rN ?_ (V t5<|V t7<|V t9<|g6o)
 refine hK _ h6 v6 (by exact sT) (by exact sT) (by exact sT) (by exact sT) (by have := o5.1; omega) (fun c hc => ?_) ?_
 ·rw [old6 c (by have := o5.1; omega) (fun e => by have := (g5.base e).1; omega), o5.2 c (by omega) (by simp)]
 ·have e1 : (insR rv out).length = insAt rv out + 1 + (out.length - insAt rv out):= by rw [insR_len]; omega
  have e2 : W.rvsC (insR rv out) = W.rvsC (out.take (insAt rv out)) ++ W.rvC rv ++ (W.rvsC out).drop (insAt rv out * 2):= by unfold insR; rw [rvs_app2, rvs_app2, rvs_drop2]; congr 2
  rw [e1, e2]
  exact g6.weak hb
structure KtO (h0 : H) (b m : Nat) (Q : List RR) (n : Nat) (ds : List Nat) (tm : T AV) (h : H) (i : Nat) (v : AV) : Prop where
 ds : ds = []
 nn : n = Q.length - i
 ii : i ≤ Q.length
 t0 : tm.get 0 = some (.ptr b 0)
 t1 : tm.get 1 = some (.int .u64 (.ofNat m))
 t5 : tm.get 5 = some v
 t6 : tm.get 6 = some (.int .i64 (.ofNat i))
 oo : Only h0 h []
 gr : Grows 2 h0.nx h v (rKeptL m (Q.take i)).length (W.rvsC (rKeptL m (Q.take i)))
structure KtJ (hX : H) (b m i c : Nat) (v : AV) (r : W.Rv) (out : List W.Rv) (n : Nat) (ds : List Nat) (tm : T AV) (h : H) (j : Nat) : Prop where
 ds : ds = []
 nn : n = insAt r out - j
 jj : j ≤ insAt r out
 t0 : tm.get 0 = some (.ptr b 0)
 t1 : tm.get 1 = some (.int .u64 (.ofNat m))
 t5 : tm.get 5 = some v
 t6 : tm.get 6 = some (.int .i64 (.ofNat i))
 t7 : tm.get 7 = some (.ptr c 0)
 t9 : tm.get 9 = some (.int .i64 (.ofNat j))
 oo : Only hX h []
theorem rKeptC {p : Nat → Prop} (h0 : H) (b m : Nat) (Q : List RR) (s : AV) (hx : RIx p h0 b Q s) (hz : Q.length ≤ 100000) (hu : ∀ r, r ∈ Q → refL r.key Q = r.A) (hAz : ∀ r, r ∈ Q → r.A.length ≤ 1000) :
  PushC P (.enter 33 [.ptr b 0, W.n64 m] h0) fun v h' => Only h0 h' [] ∧ Grows 2 h0.nx h' v (rKeptL m Q).length (W.rvsC (rKeptL m Q)) := by
 have hlen := hx.sl.len (P := P) u26
 have hso := W.SliceAt.one hx.sl
 unfold W.n64
 refine pushC_of_codeW (fn := Tryz.f33) (c := bodyC Tryz.f33) Tryz.func33 rfl ?_
 show codeW P 33 67 none _ _ _ _ _
 refine codeW_root ?_
 refine rN0 ?_
 refine st_loop (fun n ds tm h => ∃ i v, KtO h0 b m Q n ds tm h i v) Q.length rfl ⟨0, .nilslice, rfl, rfl, Nat.zero_le _, by exact sT, by exact sT, by exact sT, by exact sT, Only.refl _ _, .none⟩ (fun n ds tm h hI => ?_)
 obtain ⟨i, v, rfl, rfl, ii, t0, t1, t5, t6, oo, gr⟩ := hI
 have hxh := hx.keep oo
 have c0 := hxh.c0
 have gro := gr.one
 have x0 := oo.1
 by_cases hi : i < Q.length
 ·have d1 : decide (i < Q.length) = true := decide_eq_true hi
  have lt1 : (i < Q.length) = True:= by simp [hi]
  have w1 : wrapF .i64 (Int.ofNat i + Int.ofNat 1) = Int.ofNat (i + 1) := i64_add (by omega)
  obtain ⟨r, hr⟩ : ∃ r, Q[i]? = some r := ⟨_, List.getElem?_eq_getElem hi⟩
  have hrm := List.mem_of_getElem? hr
  have hsl := hxh.sl
  obtain ⟨bl, o, cap, rfl, hbl, -⟩ := hx.sl.place (by omega)
  obtain ⟨p0, p1⟩ := rr_at hsl hr
  have htk := rKept_take (m := m) hr
  have hkl := rKept_len m (Q.take i)
  rw [List.length_take] at hkl
  obtain ⟨out, hout⟩ : ∃ out, out = rKeptL m (Q.take i) := ⟨_, rfl⟩
  rw [← hout] at gr htk hkl
  refine rN ?_ (V t0<|V t1<|V t5<|V t6<|V c0<|V hlen<|V d1<|V lt1<|p0)
  refine ((rGetC h b r.key m Q _ hxh hz (by rw [hu r hrm]; exact hAz r hrm)).call P).mono P ?_
  rintro v1 h1 ⟨rfl, o1⟩
  rw [hu r hrm]
  obtain ⟨h2, h2e⟩ : ∃ h2, h2 = (h1.newCells 90 [.str [], .int .u64 (.ofNat 0), .int .u64 (.ofNat 0), .int .u64 (.ofNat 0), .int .u64 (.ofNat 0)]).sts h1.nx 0 (rItV r.key r.A m) := ⟨_, rfl⟩
  have o2 : Only h1 h2 []:= by rw [h2e]; exact ((Only.refl _ _).new _ _).sts (.inr (Nat.le_refl _))
  have x1 := o1.1
  have x2 : h2.nx = h1.nx + 1:= by rw [h2e, nx_sts, nx_new]
  have o02 : Only h h2 [] := o1.t o2
  have g2 : Grows 2 h0.nx h2 v _ _ := gr.of_get o02.1 (fun c e => o02.2 c (gr.base e).2 (by simp))
  unfold rItV at h2e ⊢
  cases hat : W.atT r.A m with
  | false =>
   rw [hat] at h2e
   simp only [Bool.false_eq_true, if_false] at h2e ⊢
   rw [hat, if_neg (by simp)] at htk
   refine rN ?_ (V t0<|V t1<|V t5<|V t6<|V gro<|V w1<|V h2e.symm<|@Bool.not_false)
   refine ⟨Q.length - (i + 1), by omega, i + 1, v, rfl, rfl, hi, by exact sT, by exact sT, by exact sT, by exact sT, oo.t o02, by rw [htk]; exact g2⟩
  | true =>
   rw [hat] at h2e
   simp only [if_true] at h2e ⊢
   rw [hat, if_pos rfl] at htk
   obtain ⟨rv, hrv⟩ : ∃ rv, rv = (W.atA r.A m).rev := ⟨_, rfl⟩
   rw [← hrv] at htk h2e ⊢
   have cs1 : cellAt h2 h1.nx 1 = some (.int .u64 (.ofNat rv.1)) := by
    rw [h2e, cellAt_sts (by rw [wrAt_new, if_pos rfl]), if_pos ⟨rfl, Nat.zero_le _, by simp⟩]; rfl
   have cs2 : cellAt h2 h1.nx 2 = some (.int .u64 (.ofNat rv.2)) := by
    rw [h2e, cellAt_sts (by rw [wrAt_new, if_pos rfl]), if_pos ⟨rfl, Nat.zero_le _, by simp⟩]; rfl
   have hle : insAt rv out ≤ out.length := (List.takeWhile_sublist _).length_le
   have hlo := g2.slice.len (P := P) u42
   refine rN ?_ (V t0<|V t1<|V t5<|V t6<|V gro<|V w1<|V h2e.symm<|@Bool.not_true)
   refine st_loop (fun n ds t' h' => ∃ j, KtJ h2 b m i h1.nx v rv out n ds t' h' j) (insAt rv out) rfl ⟨0, rfl, rfl, Nat.zero_le _, by exact sT, by exact sT, by exact sT, by exact sT, by exact sT, by exact sT, Only.refl _ _⟩ (fun n ds t' h' hI => ?_)
   clear t0 t1 t5 t6
   obtain ⟨j, rfl, rfl, jj, t0, t1, t5, t6, t7, t9, o3⟩ := hI
   have x3 := o3.1
   have g3 : Grows 2 h0.nx h' v _ _ := g2.of_get o3.1 (fun c e => o3.2 c (g2.base e).2 (by simp))
   have k1 := W.kcell cs1 o3 (by omega) (by simp)
   have k2 := W.kcell cs2 o3 (by omega) (by simp)
   by_cases hj : j < out.length
   ·have d2 : decide (j < out.length) = true := decide_eq_true hj
    have lt2 : (j < out.length) = True:= by simp [hj]
    have w5 : wrapF .i64 (Int.ofNat j + Int.ofNat 1) = Int.ofNat (j + 1) := i64_add (by omega)
    obtain ⟨y, hy⟩ : ∃ y, out[j]? = some y := ⟨_, List.getElem?_eq_getElem hj⟩
    have gs := g3.slice
    obtain ⟨bv, ov, cv, rfl, hbv, -⟩ := gs.place (by omega)
    obtain ⟨q0, q1⟩ := W.rvC_at gs hy
    refine rT ?_ (V t0<|V t1<|V t5<|V t6<|V t7<|V t9<|V hlo<|V d2<|V lt2<|V q0<|V q1<|V k1<|k2)
    refine ((rLessC h' y rv).call P).mono P ?_
    rintro v4 h4 ⟨rfl, o4⟩
    by_cases hj2 : j < insAt rv out
    ·rw [insAt_lt hj2 hy]
     refine rT ?_ (V t0<|V t1<|V t5<|V t6<|V t7<|V t9<|w5)
     exact ⟨insAt rv out - (j + 1), by omega, j + 1, rfl, rfl, hj2, by exact sT, by exact sT, by exact sT, by exact sT, by exact sT, by exact sT, o3.t o4⟩
    ·obtain rfl : j = insAt rv out:= by omega
     rw [insAt_end hy]
     have o34 := o3.t o4
     have g4 : Grows 2 h0.nx h4 (.slice bv ov out.length cv) _ _ := g2.of_get o34.1 (fun c e => o34.2 c (g2.base e).2 (by simp))
     repeat' (first | (with_reducible refine stop33 ?_) | ((with_reducible refine st1 ?_); (conv => whnf); (with_reducible refine ⟨?_⟩)) | ((with_reducible refine st_dw ?_ rfl rfl ?_ ?_); exact rfl; kernel_rfl; (conv => arg 5; whnf); (conv => arg 3; whnf)) | ((with_reducible refine retW_intro rfl ?_); (conv => arg 2; whnf)) | ((with_reducible first | refine iB ?_ ?_ | refine gWt ?_ ?_ | refine gWf ?_ ?_ | refine gXt ?_ ?_ | refine gXf ?_ ?_) <;> intro hb <;> (try simp only [hb])) | ((with_reducible show drawI _ _ _ _ _ _ _ _ _); first | ((with_reducible refine kI_rd ?_ ?_); exact rfl) | ((with_reducible apply kI_rg); exact rfl; exact rfl) | ((with_reducible refine kI_cv ?_ ?_ ?_); exact rfl; kernel_rfl) | ((with_reducible apply kI_al); exact rfl; exact rfl) | ((with_reducible refine kI_ex ?_ ?_ ?_ ?_ ?_); exact rfl; kernel_rfl; exact rfl) | ((with_reducible apply kI_eg); exact rfl; kernel_rfl; exact rfl) | ((with_reducible refine kI_nl ?_ ?_))) | ((with_reducible show eOk _ _ _ _ _ _); first | (exact eok_nil) | (refine ke_rd ?_ ?_ ?_; exact rfl) | (apply ke_rg; exact rfl; exact rfl) | (refine ke_cv ?_ ?_ ?_ ?_; exact rfl; kernel_rfl) | (apply ke_fl; exact rfl) | (apply ke_al; exact rfl; exact rfl)) | ((with_reducible refine freshIs_new ?_); kernel_rfl) | (simp only [B, xB, F, reduceLT, reduceLeDiff, reduceEqDiff, reduceAdd, reduceMul, reduceSub, ↓reduceIte, eq_self, t0, t1, t5, t6, t7, t9]))
     refine ⟨?_⟩
     refine keptTail h0 h4 h1.nx (.slice bv ov out.length cv) rv out (by have := o34.1; omega) g4 (by omega) (by have := o34.1; omega) (W.kcell cs1 o34 (by omega) (by simp)) (W.kcell cs2 o34 (by omega) (by simp)) _ (by exact sT) (by exact sT) (by exact sT) _ ?_
     intro tm9 h9 v9 y0 y1 y6 y5 x9 old9 g9
     have z0 : tm9.get 0 = some (.ptr b 0):= by rw [y0]; exact sT
     have z1 : tm9.get 1 = some (.int .u64 (.ofNat m)):= by rw [y1]; exact sT
     have z6 : tm9.get 6 = some (.int .i64 (.ofNat i)):= by rw [y6]; exact sT
     clear t0 t1 t5 t6 t7 t9 y0 y1 y6
     refine rT ?_ (V z0<|V z1<|V y5<|V z6<|w1)
     refine ⟨Q.length - (i + 1), by omega, i + 1, v9, rfl, rfl, hi, by exact sT, by exact sT, by simp only [B, xB, F, reduceLT, reduceLeDiff, reduceEqDiff, reduceAdd, reduceMul, reduceSub, ↓reduceIte, eq_self, y5], by exact sT, ?_, by rw [htk]; exact g9⟩
     have o09 := oo.t (o02.t o34)
     exact ⟨by have := o09.1; omega, fun c hc _ => by rw [old9 c hc, o09.2 c hc (by simp)]⟩
   ·have d2 : decide (j < out.length) = false := decide_eq_false hj
    obtain rfl : j = insAt rv out:= by omega
    have gvo := gro
    repeat' (first | (with_reducible refine stop33 ?_) | ((with_reducible refine st1 ?_); (conv => whnf); (with_reducible refine ⟨?_⟩)) | ((with_reducible refine st_dw ?_ rfl rfl ?_ ?_); exact rfl; kernel_rfl; (conv => arg 5; whnf); (conv => arg 3; whnf)) | ((with_reducible refine retW_intro rfl ?_); (conv => arg 2; whnf)) | ((with_reducible first | refine iB ?_ ?_ | refine gWt ?_ ?_ | refine gWf ?_ ?_ | refine gXt ?_ ?_ | refine gXf ?_ ?_) <;> intro hb <;> (try simp only [hb])) | ((with_reducible show drawI _ _ _ _ _ _ _ _ _); first | ((with_reducible refine kI_rd ?_ ?_); exact rfl) | ((with_reducible apply kI_rg); exact rfl; exact rfl) | ((with_reducible refine kI_cv ?_ ?_ ?_); exact rfl; kernel_rfl) | ((with_reducible apply kI_al); exact rfl; exact rfl) | ((with_reducible refine kI_ex ?_ ?_ ?_ ?_ ?_); exact rfl; kernel_rfl; exact rfl) | ((with_reducible apply kI_eg); exact rfl; kernel_rfl; exact rfl) | ((with_reducible refine kI_nl ?_ ?_))) | ((with_reducible show eOk _ _ _ _ _ _); first | (exact eok_nil) | (refine ke_rd ?_ ?_ ?_; exact rfl) | (apply ke_rg; exact rfl; exact rfl) | (refine ke_cv ?_ ?_ ?_ ?_; exact rfl; kernel_rfl) | (apply ke_fl; exact rfl) | (apply ke_al; exact rfl; exact rfl)) | ((with_reducible refine freshIs_new ?_); kernel_rfl) | (simp only [B, xB, F, reduceLT, reduceLeDiff, reduceEqDiff, reduceAdd, reduceMul, reduceSub, ↓reduceIte, eq_self, t0, t1, t5, t6, t7, t9, hlo, d2, gvo]))
    refine ⟨?_⟩
    refine keptTail h0 h' h1.nx v rv out (by omega) g3 (by omega) (by omega) k1 k2 _ (by exact sT) (by exact sT) (by exact sT) _ ?_
    intro tm9 h9 v9 y0 y1 y6 y5 x9 old9 g9
    have z0 : tm9.get 0 = some (.ptr b 0):= by rw [y0]; exact sT
    have z1 : tm9.get 1 = some (.int .u64 (.ofNat m)):= by rw [y1]; exact sT
    have z6 : tm9.get 6 = some (.int .i64 (.ofNat i)):= by rw [y6]; exact sT
    clear t0 t1 t5 t6 t7 t9 y0 y1 y6
    refine rT ?_ (V z0<|V z1<|V y5<|V z6<|w1)
    refine ⟨Q.length - (i + 1), by omega, i + 1, v9, rfl, rfl, hi, by exact sT, by exact sT, by simp only [B, xB, F, reduceLT, reduceLeDiff, reduceEqDiff, reduceAdd, reduceMul, reduceSub, ↓reduceIte, eq_self, y5], by exact sT, ?_, by rw [htk]; exact g9⟩
    have o09 := oo.t (o02.t o3)
    exact ⟨by have := o09.1; omega, fun c hc _ => by rw [old9 c hc, o09.2 c hc (by simp)]⟩
 ·
  have d1 : decide (i < Q.length) = false := decide_eq_false hi
  obtain rfl : i = Q.length:= by omega
  rw [List.take_length] at gr
  refine rN ?_ (V t0<|V t1<|V t5<|V t6<|V c0<|V hso<|V hlen<|V d1<|gro)
  exact ⟨oo, gr⟩
end
end Go.Proofs.YtlkngpckibidlaaGreat.X

namespace Go.Proofs
open Go.RowKit Go.Lib Go.Sort
theorem Tryz.isNaN79 (x : Nat) (w : World) : Calls Tryz.prog 77 #[.int .u64 x] w fun e w' => e = .returned (.bool false) ∧ w' = w := by
 go_enter Tryz.func77, Tryz.ntmps77
 go_wp2
 go_ret
 exact ⟨by simp, rfl⟩
set_option maxHeartbeats 1000000 in
theorem Tryz.compare65 (x y : Nat) (w : World) : Calls Tryz.prog 60 #[.int .u64 x, .int .u64 y] w fun e w' => e = .returned (.int .i64 (Lib.compareInt x y)) ∧ w' = w := by
 go_enter Tryz.func60, Tryz.ntmps60
 go_wp2_with (go_at_call 77; refine (Tryz.isNaN79 _ _).mono ?_; rintro e w' ⟨rfl, rfl⟩)
 all_goals (go_ret; refine ⟨?_, rfl⟩; unfold Lib.compareInt; (repeat' split) <;> first | rfl | (exfalso; omega))
def orI (a b : Int) : Int := if a = 0 then b else a
set_option maxHeartbeats 1000000 in
theorem Tryz.or64 (B : Nat) (a b : Int) (w : World) (h0 : w.cell? ⟨B, 0, none⟩ = some (.int .i64 a)) (h1 : w.cell? ⟨B, 1, none⟩ = some (.int .i64 b)) :
  Calls Tryz.prog 59 #[.slice (some ⟨B, 0, none⟩) 2 2] w fun e w' => e = .returned (.int .i64 (orI a b)) ∧ w' = w := by
 by_cases ha : a = 0
 ·subst ha
  go_enter Tryz.func59, Tryz.ntmps59
  go_wp2
  refine wp_loop_rounds 3 ?_
  rw [rounds_succ]
  go_wp2
  rw [rounds_succ]
  by_cases hb : b = 0
  ·subst hb
   go_wp2
   rw [rounds_succ]
   go_wp2
   go_ret
   exact ⟨by simp [orI], rfl⟩
  ·have hb' : (b != 0) = true:= by simpa using hb
   go_wp2
   go_ret
   exact ⟨by simp [orI], rfl⟩
 ·have ha' : (a != 0) = true:= by simpa using ha
  go_enter Tryz.func59, Tryz.ntmps59
  go_wp2
  refine wp_loop_rounds 3 ?_
  rw [rounds_succ]
  go_wp2
  go_ret
  exact ⟨by simp [orI, ha], rfl⟩
theorem two_fst (W : World) (c d : Array Value) (t u : TypeId) (j : Nat) : (((W.alloc (.cells c t)).alloc (.cells d u)).drew).cell? ⟨W.heap.size, j, none⟩ = c[j]? := by
 have h : (((W.alloc (.cells c t)).alloc (.cells d u)).drew).heap[W.heap.size]? = some (.cells c t) := by
  show ((W.heap.push (.cells c t)).push (.cells d u))[W.heap.size]? = _
  rw [Array.getElem?_push, if_neg (by rw [Array.size_push]; omega), Array.getElem?_push, if_pos rfl]
 unfold World.cell?
 rw [h]; rfl
theorem two_snd (W : World) (c d : Array Value) (t u : TypeId) (j : Nat) : (((W.alloc (.cells c t)).alloc (.cells d u)).drew).cell? ⟨W.heap.size + 1, j, none⟩ = d[j]? := by
 have h : (((W.alloc (.cells c t)).alloc (.cells d u)).drew).heap[W.heap.size + 1]? = some (.cells d u) := by
  show ((W.heap.push (.cells c t)).push (.cells d u))[W.heap.size + 1]? = _
  rw [Array.getElem?_push, if_pos (by rw [Array.size_push])]
 unfold World.cell?
 rw [h]; rfl
theorem two_grow (W : World) (o1 o2 : Obj) : ((W.alloc o1).alloc o2).drew = grow (W.drewN 1) (#[o1] ++ #[o2]) := by
 rw [← grow_grow]
 show ((W.alloc o1).alloc o2).drew = ({ grow (W.drewN 1) #[o1] with heap := _ } : World)
 unfold World.alloc World.drew World.drewN grow
 simp only [Array.append_singleton]
theorem cell_alloc0 (W : World) (c : Array Value) (t : TypeId) (j : Nat) : (W.alloc (.cells c t)).cell? ⟨W.heap.size, j, none⟩ = c[j]? := by
 have h : (W.alloc (.cells c t)).heap[W.heap.size]? = some (.cells c t) := by
  show (W.heap.push (.cells c t))[W.heap.size]? = _
  rw [Array.getElem?_push, if_pos rfl]
 unfold World.cell?
 rw [h]; rfl
def SameW (a b : World) : Prop := a = b
def revCf (x y : Nat × Nat) : Int := orI (Lib.compareInt x.1 y.1) (Lib.compareInt x.2 y.2)
set_option maxRecDepth 100000 in
set_option maxHeartbeats 400000 in
theorem Tryz.cmp63 (x y : Nat × Nat) (W : World) : Calls Tryz.prog 58 #[.agg #[.int .u64 x.1, .int .u64 x.2], .agg #[.int .u64 y.1, .int .u64 y.2]] W fun e w' => e = .returned (.int .i64 (revCf x y)) ∧ ∃ q os', w' = grow (W.drewN q) os' := by
 unfold revCf
 generalize hp : Lib.compareInt x.1 y.1 = p
 generalize hq : Lib.compareInt x.2 y.2 = q
 have c1 := fun W => Tryz.compare65 x.1 y.1 W
 have c2 := fun W => Tryz.compare65 x.2 y.2 W
 rw [hp] at c1
 rw [hq] at c2
 go_enter Tryz.func58, Tryz.ntmps58
 go_wp2
 refine wp_region_still_tail 10 (by kernel_rfl) (by kernel_rfl) ?_
 simp only [List.take_succ_cons, List.take_zero, List.drop_succ_cons, List.drop_zero]
 obtain ⟨W2, e2⟩ : ∃ W2, W2 = (((W.alloc (.cells #[.int .u64 x.1, .int .u64 x.2] 31)).alloc (.cells #[.int .u64 y.1, .int .u64 y.2] 31)).drew) := ⟨_, rfl⟩
 have k0 : W2.cell? ⟨W.heap.size, 0, none⟩ = some (.int .u64 x.1):= by rw [e2, two_fst]; rfl
 have k1 : W2.cell? ⟨W.heap.size, 1, none⟩ = some (.int .u64 x.2):= by rw [e2, two_fst]; rfl
 have k2 : W2.cell? ⟨W.heap.size + 1, 0, none⟩ = some (.int .u64 y.1):= by rw [e2, two_snd]; rfl
 have k3 : W2.cell? ⟨W.heap.size + 1, 1, none⟩ = some (.int .u64 y.2):= by rw [e2, two_snd]; rfl
 have eg : SameW W2 _ := e2.trans (two_grow W _ _)
 change wpStill _ _ ((((W.alloc (.cells #[.int .u64 x.1, .int .u64 x.2] 31)).alloc (.cells #[.int .u64 y.1, .int .u64 y.2] 31)).drew)) _ _ _
 rw [← e2]
 iterate 4 still_step
 still_call (c1 _)
 iterate 4 still_step
 still_call (c2 _)
 refine wpStill_nil ?_
 change wpList _ _ _ _ _ ((((W.alloc (.cells #[.int .u64 x.1, .int .u64 x.2] 31)).alloc (.cells #[.int .u64 y.1, .int .u64 y.2] 31)).drew))
 rw [← e2]
 clear c1 c2 hp hq k0 k1 k2 k3 e2
 go_wp2_with (go_at_call 59; refine (Tryz.or64 W2.heap.size p q _ ?_ ?_).mono ?_; (rw [cell_alloc0]; rfl); (rw [cell_alloc0]; rfl); rintro e w' ⟨rfl, rfl⟩)
 go_ret
 refine ⟨rfl, 1, ?_⟩
 have eg : W2 = _ := eg
 rw [eg, alloc_eq_grow, grow_grow]
 exact ⟨_, rfl⟩
end Go.Proofs

namespace Go.Proofs
open Go.Shelf
def Tryz.sortRev_ren : Go.Shelf.Ren := ⟨fun | 6 => 57 | 15 => 76 | 14 => 75 | 28 => 93 | 29 => 94 | 20 => 85 | 21 => 86 | 22 => 87 | 23 => 88 | 24 => 89 | 25 => 90 | 26 => 91 | 27 => 92 | 46 => 97 | 47 => 98 | 48 => 99 | 49 => 100 | 50 => 101 | 57 => 103 | n => n, fun | 22 => 42 | 24 => 31 | 25 => 111 | 3 => 3 | 39 => 131 | 0 => 0 | 53 => 147 | 55 => 29 | 4 => 4 | 46 => 141 | 45 => 140 | 50 => 99 | 5 => 5 | 9 => 9 | 66 => 148 | 70 => 152 | 76 => 155 | 77 => 156 | n => n, fun | n => n⟩
theorem Tryz.sortRev : Go.Proofs.SlLaysF0.n6 Tryz.prog Tryz.sortRev_ren := {
 mixed:= by kernel_rfl
 f6 := ⟨Tryz.f57.name, by decide, Tryz.func57.trans (congrArg some (by kernel_rfl))⟩
 f14 := ⟨Tryz.f75.name, by decide, Tryz.func75.trans (congrArg some (by kernel_rfl))⟩
 f15 := Tryz.func76.trans (congrArg some (by kernel_rfl))
 f20 := ⟨Tryz.f85.name, by decide, Tryz.func85.trans (congrArg some (by kernel_rfl))⟩
 f21 := ⟨Tryz.f86.name, by decide, Tryz.func86.trans (congrArg some (by kernel_rfl))⟩
 f22 := ⟨Tryz.f87.name, by decide, Tryz.func87.trans (congrArg some (by kernel_rfl))⟩
 f23 := ⟨Tryz.f88.name, by decide, Tryz.func88.trans (congrArg some (by kernel_rfl))⟩
 f24 := ⟨Tryz.f89.name, by decide, Tryz.func89.trans (congrArg some (by kernel_rfl))⟩
 f25 := ⟨Tryz.f90.name, by decide, Tryz.func90.trans (congrArg some (by kernel_rfl))⟩
 f26 := ⟨Tryz.f91.name, by decide, Tryz.func91.trans (congrArg some (by kernel_rfl))⟩
 f27 := ⟨Tryz.f92.name, by decide, Tryz.func92.trans (congrArg some (by kernel_rfl))⟩
 f28 := Tryz.func93.trans (congrArg some (by kernel_rfl))
 f29 := Tryz.func94.trans (congrArg some (by kernel_rfl))
 f46 := ⟨Tryz.f97.name, by decide, Tryz.func97.trans (congrArg some (by kernel_rfl))⟩
 f47 := Tryz.func98.trans (congrArg some (by kernel_rfl))
 f48 := Tryz.func99.trans (congrArg some (by kernel_rfl))
 f49 := ⟨Tryz.f100.name, by decide, Tryz.func100.trans (congrArg some (by kernel_rfl))⟩
 f50 := ⟨Tryz.f101.name, by decide, Tryz.func101.trans (congrArg some (by kernel_rfl))⟩
 f57 := ⟨Tryz.f103.name, by decide, Tryz.func103.trans (congrArg some (by kernel_rfl))⟩
 t0 := Tryz.underlying0
 a0 := Tryz.isAgg0
 z0 := Tryz.sizeOf0
 v0 := Tryz.zeroValue0
 t3 := Tryz.underlying3
 a3 := Tryz.isAgg3
 z3 := Tryz.sizeOf3
 v3 := Tryz.zeroValue3
 t4 := Tryz.underlying4
 a4 := Tryz.isAgg4
 z4 := Tryz.sizeOf4
 v4 := Tryz.zeroValue4
 t5 := Tryz.underlying5
 a5 := Tryz.isAgg5
 z5 := Tryz.sizeOf5
 v5 := Tryz.zeroValue5
 t9 := Tryz.underlying9
 a9 := Tryz.isAgg9
 z9 := Tryz.sizeOf9
 v9 := Tryz.zeroValue9
 t22 := Tryz.underlying42
 a22 := Tryz.isAgg42
 z22 := Tryz.sizeOf42
 v22 := Tryz.zeroValue42
 t25 := Tryz.underlying111
 a25 := Tryz.isAgg111
 z25 := Tryz.sizeOf111
 v25 := Tryz.zeroValue111
 t39 := Tryz.underlying131
 a39 := Tryz.isAgg131
 z39 := Tryz.sizeOf131
 v39 := Tryz.zeroValue131
 t45 := Tryz.underlying140
 a45 := Tryz.isAgg140
 z45 := Tryz.sizeOf140
 v45 := Tryz.zeroValue140
 t46 := Tryz.underlying141
 a46 := Tryz.isAgg141
 z46 := Tryz.sizeOf141
 v46 := Tryz.zeroValue141
 t50 := Tryz.underlying99
 a50 := Tryz.isAgg99
 z50 := Tryz.sizeOf99
 v50 := Tryz.zeroValue99
 t53 := Tryz.underlying147
 a53 := Tryz.isAgg147
 z53 := Tryz.sizeOf147
 v53 := Tryz.zeroValue147
 t55 := Tryz.underlying29
 a55 := Tryz.isAgg29
 z55 := Tryz.sizeOf29
 v55 := Tryz.zeroValue29
 t66 := Tryz.underlying148
 a66 := Tryz.isAgg148
 z66 := Tryz.sizeOf148
 v66 := Tryz.zeroValue148
 t70 := Tryz.underlying152
 a70 := Tryz.isAgg152
 z70 := Tryz.sizeOf152
 v70 := Tryz.zeroValue152
 t76 := Tryz.underlying155
 a76 := Tryz.isAgg155
 z76 := Tryz.sizeOf155
 v76 := Tryz.zeroValue155
 t77 := Tryz.underlying156
 a77 := Tryz.isAgg156
 z77 := Tryz.sizeOf156
 v77 := Tryz.zeroValue156 }
end Go.Proofs

namespace Go.AX
noncomputable section
open Go.RowKit Go.Sort Go.Shelf Go.Proofs
section
variable {P : Program} {ρ : Ren} {α : Type} [Inhabited α]
theorem flat_len_k {β : Type} {f : α → List β} {k : Nat} (hf : ∀ x, (f x).length = k) : ∀ l : List α, (l.flatMap f).length = l.length * k
 | [] => by simp
 | x :: l => by rw [List.flatMap_cons, List.length_append, hf, flat_len_k hf l, List.length_cons, Nat.add_mul]; omega
theorem flat_at_k {β : Type} {f : α → List β} {k : Nat} (hk : 0 < k) (hf : ∀ x, (f x).length = k) : ∀ (l : List α) (j : Nat), j < l.length * k → ∃ x, l[j / k]? = some x ∧ (l.flatMap f)[j]? = (f x)[j % k]?
 | [], j, h => by simp at h
 | x :: l, j, h => by
  rw [List.flatMap_cons]
  by_cases q : j < k
  ·refine ⟨x, by rw [Nat.div_eq_of_lt q]; rfl, ?_⟩
   rw [List.getElem?_append_left (by rw [hf]; exact q), Nat.mod_eq_of_lt q]
  ·obtain ⟨y, h1, h2⟩ := flat_at_k hk hf l (j - k) (by rw [List.length_cons, Nat.add_mul] at h; omega)
   refine ⟨y, ?_, ?_⟩
   ·rw [Nat.div_eq_sub_div hk (by omega)]; simpa using h1
   ·rw [List.getElem?_append_right (by rw [hf]; omega), hf, h2, Nat.mod_eq_sub_mod (show k ≤ j by omega)]
structure EncR (encA : α → List AV) (enc : α → List Value) (k : Nat) : Prop where
 k0 : 0 < k
 ln : ∀ x, (encA x).length = k
 one : ∀ x v, v ∈ encA x → v.one = true
 rel : ∀ (φ : Phi) (x : α) (j : Nat) (a : AV) (cv : Value), (encA x)[j]? = some a → (VR φ a cv ↔ (enc x)[j]? = some cv)
 lv : ∀ x, (enc x).length = k
 ov : ∀ x, ∀ v ∈ enc x, v.oneCell' = true
theorem get_flat_toArray {enc : α → List Value} {k : Nat} {d : List α} {j : Nat} {x : α} {v : Value} (hj : j < d.length * k) (hx : d[j / k]? = some x) (hv : (enc x)[j % k]? = some v) : (flatK enc k d.toArray)[j]! = v := by
 rw [get_flatK enc k d.toArray j (by simpa using hj)]
 have h1 : d.toArray[j / k]! = x := by
  obtain ⟨h1, h2⟩ := List.getElem?_eq_some_iff.1 hx
  rw [getElem!_pos _ _ (by simpa using h1)]; simpa using h2
 rw [h1]
 obtain ⟨h1, h2⟩ := List.getElem?_eq_some_iff.1 hv
 rw [getElem!_pos (enc x) (j % k) h1]; exact h2
theorem sortF_ok (L : SlLaysF0.n6 P ρ) {k : Nat} {encA : α → List AV} {enc : α → List Value} (hE : EncR encA enc k) (aE : ∀ w, (isAgg (ρ.t 24)).run P w = .ok true w) (zE : ∀ w, (Go.sizeOf (ρ.t 24)).run P w = .ok k w)
  {cf : α → α → Int} (hO : SWO (ltOf cf)) (hT : ∀ x y, (ltOf cf) x y = false → (ltOf cf) y x = false → x = y) {g : Nat} (eg : ∀ args w, (callFunc g args).run P w = .ok (.enter g args) w)
  (hcmp : ∀ x y W, Calls P g #[.agg (enc x).toArray, .agg (enc y).toArray] W fun e w' => e = .returned (.int .i64 (cf x y)) ∧ ∃ q os', w' = grow (W.drewN q) os')
  {h : H} {b o : Nat} {cap : Cap} {d : List α} (hz : d.length < 4611686018427387904) (hc : CellsAt h b o (d.flatMap encA)) (hw : wrAt h b = true) (f : FuncId) (hf : ρ.f 6 = f) {Q : AV → H → Prop}
  (hq : Q (.tuple []) (h.sts b o ((d.mergeSort fun x y => !(ltOf cf) y x).flatMap encA))) : CallC P (.enter f [.slice b o d.length cap, .func g [] []] h) Q := by
 classical
 subst hf
 obtain ⟨d', hd'⟩ : ∃ d', d' = d.mergeSort fun x y => !(ltOf cf) y x := ⟨_, rfl⟩
 have hlen : d'.length = d.length:= by rw [hd', List.length_mergeSort]
 rw [← hd'] at hq
 let K : Hook := ⟨fun f0 args h0 => if f0 = ρ.f 6 ∧ args = [.slice b o d.length cap, .func g [] []] ∧ h0 = h then some (.tuple [], h.sts b o (d'.flatMap encA)) else none, fun _ _ _ => none⟩
 have hK : HookOk P K := by
  refine ⟨?_, fun _ _ _ _ _ h => (by cases h)⟩
  intro f0 args h0 v h' hk N φ w cargs hr hN ha
  replace hk : (if f0 = ρ.f 6 ∧ args = [.slice b o d.length cap, .func g [] []] ∧ h0 = h then some (AV.tuple [], h.sts b o (d'.flatMap encA)) else none) = some (v, h') := hk
  by_cases hcond : f0 = ρ.f 6 ∧ args = [.slice b o d.length cap, .func g [] []] ∧ h0 = h
  ·rw [if_pos hcond] at hk
   obtain ⟨rfl, rfl, rfl⟩ := hcond
   cases hk
   obtain ⟨v1, vs, hc1, h1, hr2⟩ := All2.cons_left.1 ha
   obtain ⟨v2, vs2, hc2, h2, hr3⟩ := All2.cons_left.1 hr2
   have := All2.nil_left.1 hr3; subst this; subst hc2
   have hca : cargs = #[v1, v2]:= by cases cargs; simp_all
   subst hca
   obtain ⟨L0, kc, hL, rfl⟩ : ∃ L k, φ b = some L ∧ v1 = .slice (some ⟨L.B, L.base + o, none⟩) d.length k := by
    cases cap with
    | exact c => rw [VR_sliceEx] at h1; obtain ⟨L, h1, h2⟩ := h1; exact ⟨L, c, h1, h2⟩
    | opn i => rw [VR_sliceOp] at h1; obtain ⟨L, h1, h2, _⟩ := h1; exact ⟨L, _, h1, h2⟩
   rw [VR_func] at h2
   obtain ⟨a1, a2, rfl, e1, e2⟩ := h2
   have := All2.nil_left.1 e1
   have ha1 : a1 = #[]:= by cases a1; simp_all
   have := All2.nil_left.1 e2
   have ha2 : a2 = #[]:= by cases a2; simp_all
   subst ha1; subst ha2
   unfold wrAt at hw
   split at hw
   ·rename_i m t kk hb
    obtain ⟨c, ty, frz, g1, g2, g3, g4, g5⟩ := hr.get hb hL
    have hlt : L0.B < w.heap.size := (hr.get hb hL).lt
    obtain ⟨hNB, hfr⟩ := g4 rfl
    have hcell : ∀ j, j < d.length * k → ∃ x a cv, d[j / k]? = some x ∧ t.get (o + j) = some a ∧ c[L0.base + (o + j)]? = some cv ∧ (enc x)[j % k]? = some cv ∧ o + j < m := by
     intro j hj
     obtain ⟨x, hx, hxe⟩ := flat_at_k hE.k0 hE.ln d j hj
     have hcj := hc j (by rw [flat_len_k hE.ln]; exact hj)
     have hm : j % k < (encA x).length:= by rw [hE.ln]; exact Nat.mod_lt _ hE.k0
     rw [hxe, List.getElem?_eq_getElem hm] at hcj
     unfold cellAt at hcj
     rw [hb] at hcj
     obtain ⟨q1, q2, cv, q3, q4⟩ := g3 _ _ hcj
     exact ⟨x, _, cv, hx, hcj, q3, (hE.rel φ x _ _ cv (List.getElem?_eq_getElem hm)).1 q4, q1⟩
    have hH : HoldsK enc k w L0.B (L0.base + o) d.toArray := by
     intro j hj
     rw [size_flatK] at hj
     have hj' : j < d.length * k:= by simpa using hj
     obtain ⟨x, a, cv, q1, q2, q3, q4, q5⟩ := hcell j hj'
     rw [get_flat_toArray hj' q1 q4]
     refine ⟨by rw [cell_eq g1, Nat.add_assoc]; exact q3, ?_⟩
     rw [frozen_eq g1]
     have hi := (Array.getElem?_eq_some_iff.1 q3).1
     have := hfr _ hi
     rw [Nat.add_assoc]
     simp only [Bool.and_eq_false_iff, decide_eq_false_iff_not]; omega
    refine (AnyQ.slices_SortFunc_total L k aE zE enc hE.lv hE.ov cf hO g #[] L0.B (L0.base + o) kc d.toArray w eg (fun _ _ _ _ x y => hcmp x y _) hH hlt (by simpa using hz) hT).mono ?_
    rintro e w' ⟨rfl, nd, os, rfl⟩
    have htl : (d.toArray.toList.mergeSort fun x y => !(ltOf cf) y x) = d':= by rw [hd']
    rw [htl]
    unfold sortWorldK
    -- the row is written
    have hw1 : ∀ x, (putRowK enc k (Sort.ahead w nd) L0.B (L0.base + o) d'.toArray).heap[x]? = if x = L0.B then some (.cells (putCells id (L0.base + o) (flatK enc k d'.toArray) c) ty frz) else w.heap[x]? := by
     intro x
     unfold putRowK putRow mapBlock
     simp only [Array.getElem?_modify, heap_ahead]
     by_cases q : L0.B = x
     ·subst q; rw [if_pos rfl, if_pos rfl, g1]; rfl
     ·rw [if_neg q, if_neg (fun e => q e.symm)]
    have hput : HR N φ (h0.sts b o (d'.flatMap encA)) (putRowK enc k (Sort.ahead w nd) L0.B (L0.base + o) d'.toArray) := by
     unfold H.sts; rw [hb]
     refine hr.set hb hL _ (fun x hx => by rw [hw1, if_neg hx]) ?_
     have hsz : (putCells id (L0.base + o) (flatK enc k d'.toArray) c).size = c.size:= by simp [putCells]
     refine ⟨_, ty, frz, by rw [hw1, if_pos rfl], by rw [hsz]; exact g2, fun i v hi => ?_, fun _ => ⟨hNB, by rw [hsz]; exact hfr⟩, fun e => by rw [hsz]; exact g5.1 e, g5.2⟩
     rw [setL_get] at hi
     have hfl : (d'.flatMap encA).length = d.length * k:= by rw [flat_len_k hE.ln, hlen]
     have hcl : ∀ v, c[L0.base + i]? = some v → (putCells id (L0.base + o) (flatK enc k d'.toArray) c)[L0.base + i]? = some (if L0.base + o ≤ L0.base + i ∧ L0.base + i < L0.base + o + d.length * k then (flatK enc k d'.toArray)[L0.base + i - (L0.base + o)]! else v) := by
      intro v hv
      unfold putCells
      rw [Array.getElem?_mapIdx, hv, size_flatK]
      simp only [Option.map_some, List.size_toArray, hlen, id]
     split at hi
     ·rename_i q
      rw [hfl] at q
      obtain ⟨x, hx, hxe⟩ := flat_at_k hE.k0 hE.ln d' (i - o) (by rw [hlen]; omega)
      rw [hxe] at hi
      obtain ⟨_, _, cv, _, _, q3, _, q5⟩ := hcell (i - o) (by omega)
      have hm : (i - o) % k < (enc x).length:= by rw [hE.lv]; exact Nat.mod_lt _ hE.k0
      have hev := List.getElem?_eq_getElem hm
      rw [show o + (i - o) = i by omega] at q3 q5
      refine ⟨q5, hE.one x _ (List.mem_of_getElem? hi), _, ?_, (hE.rel φ x _ _ _ hi).2 hev⟩
      rw [hcl _ q3, if_pos (by omega), show L0.base + i - (L0.base + o) = i - o by omega, get_flat_toArray (by rw [hlen]; omega) hx hev]
     ·rename_i q
      rw [hfl] at q
      obtain ⟨q1, q2, cv, q3, q4⟩ := g3 i v hi
      refine ⟨q1, q2, cv, ?_, q4⟩
      rw [hcl _ q3, if_neg (by omega)]
    have hb1 : Below N.n w (putRowK enc k (Sort.ahead w nd) L0.B (L0.base + o) d'.toArray) :=
     ⟨rfl, rfl, rfl, by unfold putRowK; simp, fun x hx => by rw [hw1, if_neg (by omega)]⟩
    have hb2 : Below (putRowK enc k (Sort.ahead w nd) L0.B (L0.base + o) d'.toArray).heap.size (putRowK enc k (Sort.ahead w nd) L0.B (L0.base + o) d'.toArray) (grow (putRowK enc k (Sort.ahead w nd) L0.B (L0.base + o) d'.toArray) os) :=
     ⟨rfl, rfl, rfl, by unfold grow; simp, fun x hx => by unfold grow; simp only; rw [Array.getElem?_append_left hx]⟩
    have hbel : Below N.n w (grow (putRowK enc k (Sort.ahead w nd) L0.B (L0.base + o) d'.toArray) os) := by
     refine ⟨rfl, rfl, rfl, Nat.le_trans hb1.size hb2.size, fun x hx => ?_⟩
     rw [hb2.block x (by have := hb1.size; omega), hb1.block x hx]
    refine ⟨φ, _, rfl, φ.le_refl, by simp, ?_, hbel⟩
    exact ⟨fun x ox hx hn => let ⟨L1, p1, p2⟩ := hput.obj x ox hx hn; ⟨L1, p1, p2.congr (hb2.block _ p2.lt)⟩, hput.inj, hput.lt, hput.res, hput.glob⟩
   ·cases hw
  ·rw [if_neg hcond] at hk; cases hk
 exact CallC.of_hook P hK (by show (if _ then _ else _) = _; rw [if_pos ⟨rfl, rfl, rfl⟩]) hq
end
end
end Go.AX
namespace Go.AX
noncomputable section
open Go.RowKit Go.Sort Go.Shelf Go.Proofs
theorem sortF_none {P : Program} {ρ : Ren} (L : SlLaysF0.n6 P ρ) {h : H} {fv : AV} (f : FuncId) (hf : ρ.f 6 = f) {Q : AV → H → Prop} (hq : Q (.tuple []) h) : CallC P (.enter f [.nilslice, fv] h) Q := by
 classical
 subst hf
 let K : Hook := ⟨fun f0 args h0 => if f0 = ρ.f 6 ∧ args = [.nilslice, fv] ∧ h0 = h then some (.tuple [], h) else none, fun _ _ _ => none⟩
 have hK : HookOk P K := by
  refine ⟨?_, fun _ _ _ _ _ h => (by cases h)⟩
  intro f0 args h0 v h' hk N φ w cargs hr hN ha
  replace hk : (if f0 = ρ.f 6 ∧ args = [.nilslice, fv] ∧ h0 = h then some (AV.tuple [], h) else none) = some (v, h') := hk
  by_cases hcond : f0 = ρ.f 6 ∧ args = [.nilslice, fv] ∧ h0 = h
  ·rw [if_pos hcond] at hk
   obtain ⟨rfl, rfl, rfl⟩ := hcond
   cases hk
   obtain ⟨v1, vs, hc1, h1, hr2⟩ := All2.cons_left.1 ha
   obtain ⟨v2, vs2, hc2, h2, hr3⟩ := All2.cons_left.1 hr2
   have := All2.nil_left.1 hr3; subst this; subst hc2
   have hca : cargs = #[v1, v2]:= by cases cargs; simp_all
   subst hca
   rw [VR_nilslice] at h1
   subst h1
   refine (AnyF.slices_SortFunc_none L none 0 v2 w).mono ?_
   rintro e w' ⟨rfl, rfl⟩
   exact ⟨φ, _, rfl, φ.le_refl, by simp, hr, Below.refl _ _⟩
  ·rw [if_neg hcond] at hk; cases hk
 exact CallC.of_hook P hK (by show (if _ then _ else _) = _; rw [if_pos ⟨rfl, rfl, rfl⟩]) hq
end
end Go.AX

namespace Go.Proofs.YtlkngpckibidlaaGreat.X
open Go Go.AX
noncomputable section
set_option maxRecDepth 100000
variable {N : Nat → Prop}
def leR (x y : W.Rv) : Bool := !W.above x y
def modsL (l : List It) : List W.Rv := l.map (·.mod)
def keptL (m : Nat) (R : List Pr) : List W.Rv := (modsL (itsL m R)).mergeSort leR
theorem srt_none {R : List Pr} : atK [] R = 0 := by
 cases R with
 | nil => rfl
 | cons p R =>
  have : listLtB p.key [] = false:= by cases p.key <;> rfl
  unfold atK
  simp [List.findIdx_cons, this]
theorem take_all {α : Type} {p : α → Bool} : ∀ (l : List α), (∀ x, p x = true) → l.takeWhile p = l
 | [], _ => rfl
 | x :: l, h => by rw [List.takeWhile_cons_of_pos (h x), take_all l h]
theorem above_ltOf (x y : W.Rv) : Go.Proofs.ltOf revCf x y = W.above y x := by
 unfold Go.Proofs.ltOf revCf orI Lib.compareInt W.above
 by_cases h1 : x.1 < y.1
 ·have : (x.1 : Int) < y.1:= by omega
  simp [h1, this]
 ·have h1' : ¬ (x.1 : Int) < y.1:= by omega
  by_cases h2 : y.1 < x.1
  ·have h2' : (y.1 : Int) < x.1:= by omega
   have : ¬ y.1 = x.1:= by omega
   simp [h1, h1', h2', this]
  ·have h2' : ¬ (y.1 : Int) < x.1:= by omega
   have e : y.1 = x.1:= by omega
   by_cases h3 : x.2 < y.2
   ·have : (x.2 : Int) < y.2:= by omega
    simp [h1', h2', e, h3, this]
   ·have h3' : ¬ (x.2 : Int) < y.2:= by omega
    by_cases h4 : (y.2 : Int) < x.2 <;> simp [h1', h2', e, h3, h3', h4]
theorem above_tri (x y : W.Rv) : W.above x y = true ∨ x = y ∨ W.above y x = true := by
 obtain ⟨a, b⟩ := x
 obtain ⟨c, d⟩ := y
 simp only [W.above, Bool.or_eq_true, decide_eq_true_eq, Bool.and_eq_true, Prod.mk.injEq]
 omega
theorem swoR : Go.Sort.SWO (Go.Proofs.ltOf revCf) where
 irrefl x:= by rw [above_ltOf]; exact W.above_irrefl x
 trans x y z h1 h2:= by rw [above_ltOf] at *; exact W.above_trans h2 h1
 ntrans x y z h1 h2 := by
  rw [above_ltOf] at *
  rcases above_tri z x with h | h | h
  ·rcases above_tri y x with q | q | q
   ·rw [q] at h1; cases h1
   ·subst q; rw [h] at h2; cases h2
   ·have := W.above_trans h q
    rw [this] at h2; cases h2
  ·subst h; exact W.above_irrefl _
  ·cases q : W.above z x with
   | false => rfl
   | true => have := W.above_trans q h; rw [W.above_irrefl] at this; cases this
theorem encR : EncR (α := W.Rv) W.rvC (fun r => [.int .u64 r.1, .int .u64 r.2]) 2 where
 k0:= by omega
 ln _ := rfl
 one x v hv:= by unfold W.rvC at hv; simp at hv; rcases hv with rfl | rfl <;> rfl
 rel φ x j a cv h := by
  unfold W.rvC at h
  match j with
  | 0 => simp at h; subst h; simp [eq_comm]
  | 1 => simp at h; subst h; simp [eq_comm]
  | j + 2 => simp at h
 lv _ := rfl
 ov x v hv:= by simp at hv; rcases hv with rfl | rfl <;> rfl
theorem sortRevC (h : H) (w : AV) (base n : Nat) (l : List W.Rv) (hg : Grows 2 base h w n (W.rvsC l)) (hn : l.length = n) (hz : n ≤ 4194304) {Q : AV → H → Prop}
  (hq : ∀ h', (∀ b, blkOf w ≠ some b → h'.t.get b = h.t.get b) → h'.nx = h.nx → Grows 2 base h' w n (W.rvsC (l.mergeSort leR)) → Q (.tuple []) h') : CallC P (.enter 57 [w, .func 58 [] []] h) Q := by
 have hle : (fun x y => !(Go.Proofs.ltOf revCf) y x) = leR:= by funext x y; rw [above_ltOf]; rfl
 obtain ⟨cs, hcs⟩ : ∃ cs, cs = W.rvsC l := ⟨_, rfl⟩
 rw [← hcs] at hg
 cases hg with
 | none =>
  refine sortF_none Tryz.sortRev 57 rfl (hq h (fun _ _ => rfl) rfl ?_)
  have : l = [] := List.length_eq_zero_iff.1 hn
  subst this
  rw [List.mergeSort_nil]
  exact .none
 | cell b _ _ t ty h1 h2 h3 h4 h5 =>
  subst hcs
  have hc : CellsAt h b 0 (l.flatMap W.rvC) := fun i hi => by
   unfold cellAt; rw [h4, Nat.zero_add]; exact h5 i
  have hw : wrAt h b = true:= by unfold wrAt; rw [h4]
  subst hn
  refine sortF_ok Tryz.sortRev encR Tryz.isAgg31 Tryz.sizeOf31 swoR (fun x y h1 h2 => ?_) (enters_of Tryz.func58 (by kernel_rfl) rfl) (fun x y W => Tryz.cmp63 x y W) (by omega) hc hw 57 rfl ?_
  ·rw [above_ltOf] at h1 h2
   rcases above_tri x y with h | h | h
   ·rw [h] at h2; cases h2
   ·exact h
   ·rw [h] at h1; cases h1
  ·rw [hle]
   have hl : (W.rvsC (l.mergeSort leR)).length = l.length * 2:= by rw [W.rvs_len, List.length_mergeSort]
   refine hq _ (fun b' hb => get_sts _ _ _ _ (fun e => hb (by rw [e]; rfl))) (nx_sts _ _ _ _) ?_
   refine .cell b _ _ (AX.setL t 0 (W.rvsC (l.mergeSort leR))) ty h1 (by rw [nx_sts]; exact h2) hl ?_ (fun j => ?_)
   ·unfold H.sts; rw [h4]; simp only [T.get_set, if_pos]; rfl
   ·rw [setL_get, hl]
    by_cases q : j < l.length * 2
    ·rw [if_pos (by omega)]; rfl
    ·rw [if_neg (by omega), h5, List.getElem?_eq_none (by omega), List.getElem?_eq_none (by omega)]
structure KpI (h0 : H) (l : List It) (n : Nat) (ds : List Nat) (tm : T AV) (h : H) (i : Nat) (v w : AV) : Prop where
 ds : ds = []
 nn : n = l.length - i
 ii : i ≤ l.length
 t5 : tm.get 5 = some w
 t10 : tm.get 10 = some v
 t11 : tm.get 11 = some (.int .i64 (.ofNat l.length))
 t12 : tm.get 12 = some (.int .i64 (.ofNat i))
 oo : Only h0 h []
 gr : Grows 2 h0.nx h w i (W.rvsC (modsL (l.take i)))
theorem keptC (h0 : H) (b m : Nat) (R : List Pr) (s : AV) (hx : IxR N h0 b R s) (hz : ∀ p, p ∈ R → W.Sz 1000 p.L) :
  PushC P (.enter 29 [.ptr b 0, W.n64 m] h0) fun v h' => Only h0 h' [] ∧ Grows 2 h0.nx h' v (keptL m R).length (W.rvsC (keptL m R)) := by
 have b0 : bytesOf { data := #[] } = [] := rfl
 have b1 : bytesOf { data := #[0] } = [0] := rfl
 unfold W.n64
 refine pushC_of_codeW (fn := Tryz.f29) (c := bodyC Tryz.f29) Tryz.func29 rfl ?_
 show codeW P 29 25 none _ _ _ _ _
 refine codeW_root ?_
 refine rN ?_ (V b0<|b1)
 refine ((rangeC h0 b [] [0] m R s hx hz (by simp)).call P).mono P ?_
 rintro v h1 ⟨o1, g1⟩
 have hl : rangeI [] [0] m R = itsL m R := by
  unfold rangeI endL lastB fromL
  rw [srt_none, List.drop_zero]
  exact congrArg (itsL m) (take_all R fun p => by simp [passB])
 rw [hl] at g1
 obtain ⟨l, hle⟩ : ∃ l, l = itsL m R := ⟨_, rfl⟩
 rw [← hle] at g1
 have hlz : l.length ≤ 100000:= by rw [hle]; exact Nat.le_trans (its_len m R) hx.ix.zz
 have hlen := g1.slice.len (P := P) u83
 have go1 := g1.one
 refine rN ?_ (V hlen<|go1)
 refine st_loop (fun n ds tm h => ∃ i w, KpI h1 l n ds tm h i v w) l.length rfl ⟨0, .nilslice, rfl, rfl, Nat.zero_le _, by exact sT, by exact sT, by exact sT, by exact sT, Only.refl _ _, Grows.none⟩ (fun n ds tm h hI => ?_)
 obtain ⟨i, w, rfl, rfl, ii, t5, t10, t11, t12, oo, gr⟩ := hI
 have go2 := gr.one
 by_cases hi : i < l.length
 ·have d1 : decide (i < l.length) = true := decide_eq_true hi
  have lt1 : (i < l.length) = True:= by simp [hi]
  have w1 : wrapF .i64 (Int.ofNat i + Int.ofNat 1) = Int.ofNat (i + 1) := i64_add (by omega)
  obtain ⟨x, hx⟩ : ∃ x, l[i]? = some x := ⟨_, List.getElem?_eq_getElem hi⟩
  obtain ⟨bl, o, cap, rfl, hb, -⟩ := g1.slice.place (by omega)
  obtain ⟨p0, p1, p2, p3, p4⟩ := itC_at g1.slice hx
  replace p0 := W.kcell p0 oo (by omega) (by simp)
  replace p1 := W.kcell p1 oo (by omega) (by simp)
  replace p2 := W.kcell p2 oo (by omega) (by simp)
  replace p3 := W.kcell p3 oo (by omega) (by simp)
  replace p4 := W.kcell p4 oo (by omega) (by simp)
  rw [Nat.add_assoc] at p1 p2 p3 p4
  obtain ⟨h2, h2e⟩ : ∃ h2, h2 = ((h.newCells 87 [.str [], .int .u64 (.ofNat 0), .int .u64 (.ofNat 0), .int .u64 (.ofNat 0), .int .u64 (.ofNat 0)]).sts h.nx 0 [.str x.key, .int .u64 (.ofNat x.mod.1), .int .u64 (.ofNat x.mod.2), .int .u64 (.ofNat x.made), .int .u64 (.ofNat x.nth)]).newCells 31 [.int .u64 (.ofNat x.mod.1), .int .u64 (.ofNat x.mod.2)] := ⟨_, rfl⟩
  have o2 : Only h h2 []:= by rw [h2e]; exact (((Only.refl _ _).new _ _).sts (.inr (Nat.le_refl _))).new _ _
  have x2 : h2.nx = h.nx + 2:= by rw [h2e, nx_new, nx_sts, nx_new]
  have n0 : cellAt h2 (h.nx + 1) 0 = some (.int .u64 (.ofNat x.mod.1)):= by rw [h2e]; exact sT
  have n1 : cellAt h2 (h.nx + 1) 1 = some (.int .u64 (.ofNat x.mod.2)):= by rw [h2e]; exact sT
  have gr1 : Grows 2 h1.nx h2 w _ _ := gr.of_get o2.1 (fun b hb => o2.2 b (gr.base hb).2 (by simp))
  refine rN ?_ (V t5<|V t10<|V t11<|V t12<|V d1<|V lt1<|V p0<|V p1<|V p2<|V p3<|V p4<|V w1<|V go2<|V h2e.symm<|V n0<|n1)
  have hlt : (l.take i).length = i:= by rw [List.length_take]; omega
  have x0 := oo.1
  refine exW_grows (m := 1) (new := W.rvC x.mod) gr1 (by omega) (by omega) (by omega) rfl (by omega) (fun v' h3 gr3 x3 old3 blk3 => ?_)
  have e : W.rvsC (modsL (l.take i)) ++ W.rvC x.mod = W.rvsC (modsL (l.take (i + 1))) := by
   rw [List.take_add_one, hx]; simp [W.rvsC, modsL]
  rw [e] at gr3
  have o3 : Only h1 h3 [] := ⟨by omega, fun b hb _ => by
   rw [old3 b (by omega) (fun q => by have := (gr1.base q).1; omega)]; exact (oo.t o2).2 b hb (by simp)⟩
  have go3 := gr3.one
  refine rN ?_ (V t5<|V t10<|V t11<|V t12<|V w1<|go3)
  exact ⟨l.length - (i + 1), by omega, i + 1, v', rfl, rfl, hi, by exact sT, by exact sT, by exact sT, by exact sT, o3, gr3⟩
 ·have d1 : decide (i < l.length) = false := decide_eq_false hi
  obtain rfl : i = l.length:= by omega
  rw [List.take_length] at gr
  have x1 := o1.1
  refine rN ?_ (V t5<|V t10<|V t11<|V t12<|V d1<|go2)
  have hk : keptL m R = (modsL l).mergeSort leR:= by unfold keptL; rw [hle]
  have hlen' : (modsL l).length = l.length:= by unfold modsL; simp
  refine sortRevC h w h1.nx l.length (modsL l) gr hlen' (by omega) (fun h2 e2 n2 g2 => ?_)
  have go3 := g2.one
  refine rN ?_ (V t5<|go3)
  have x2 := oo.1
  refine ⟨⟨by omega, fun b hb _ => by rw [e2 b (fun q => by have := (gr.base q).1; omega)]; exact (o1.t oo).2 b hb (by simp)⟩, ?_⟩
  rw [hk, List.length_mergeSort, hlen']
  exact g2.weak x1
end
end Go.Proofs.YtlkngpckibidlaaGreat.X

namespace Go.Proofs.YtlkngpckibidlaaGreat.X
open Go Go.AX
noncomputable section
theorem insR_cons (r a : W.Rv) (out : List W.Rv) : insR r (a :: out) = if W.above r a then a :: insR r out else r :: a :: out := by
 unfold insR insAt
 rw [List.takeWhile_cons]
 split <;> simp
theorem insR_perm (r : W.Rv) : ∀ out : List W.Rv, (insR r out).Perm (r :: out)
 | [] => by unfold insR insAt; simp
 | a :: out => by
  rw [insR_cons]
  split
  ·exact ((insR_perm r out).cons a).trans (List.Perm.swap r a out)
  ·exact List.Perm.refl _
theorem above_as {x y : W.Rv} (h : W.above x y = true) : W.above y x = false := by
 cases q : W.above y x with
 | false => rfl
 | true => have := W.above_trans h q; rw [W.above_irrefl] at this; cases this
theorem leR_trans {x y z : W.Rv} (h1 : leR x y = true) (h2 : leR y z = true) : leR x z = true := by
 unfold leR at *
 rw [Bool.not_eq_true'] at *
 cases q : W.above x z with
 | false => rfl
 | true =>
  rcases above_tri x y with t | t | t
  ·rw [t] at h1; cases h1
  ·rw [t, h2] at q; cases q
  ·have := W.above_trans t q; rw [h2] at this; cases this
theorem leR_total (x y : W.Rv) : (leR x y || leR y x) = true := by
 unfold leR
 cases q : W.above x y with
 | false => rfl
 | true => rw [above_as q]; rfl
theorem leR_anti {x y : W.Rv} (h1 : leR x y = true) (h2 : leR y x = true) : x = y := by
 unfold leR at *
 rw [Bool.not_eq_true'] at *
 rcases above_tri x y with t | t | t
 ·rw [t] at h1; cases h1
 ·exact t
 ·rw [t] at h2; cases h2
theorem insR_srt (r : W.Rv) : ∀ out : List W.Rv, (out.Pairwise fun a b => leR a b = true) → ((insR r out).Pairwise fun a b => leR a b = true)
 | [], _ => by unfold insR insAt; simp
 | a :: out, h => by
  have hc := List.pairwise_cons.1 h
  rw [insR_cons]
  cases q : W.above r a with
  | true =>
   rw [if_pos rfl]
   refine List.pairwise_cons.2 ⟨fun y hy => ?_, insR_srt r out hc.2⟩
   rcases List.mem_cons.1 ((insR_perm r out).mem_iff.1 hy) with e | e
   ·subst e; unfold leR; rw [above_as q]; rfl
   ·exact hc.1 y e
  | false =>
   rw [if_neg (by simp)]
   have hra : leR r a = true:= by unfold leR; rw [q]; rfl
   refine List.pairwise_cons.2 ⟨fun y hy => ?_, h⟩
   rcases List.mem_cons.1 hy with e | e
   ·subst e; exact hra
   ·exact leR_trans hra (hc.1 y e)
theorem insAll_sort (l : List W.Rv) : insAll l = l.mergeSort leR := by
 have key : ∀ (l o : List W.Rv), (o.Pairwise fun a b => leR a b = true) → ((l.foldl (fun out r => insR r out) o).Pairwise fun a b => leR a b = true) ∧ (l.foldl (fun out r => insR r out) o).Perm (l ++ o) := by
  intro l
  induction l with
  | nil => intro o h; exact ⟨h, List.Perm.refl _⟩
  | cons a l ih =>
   intro o h
   obtain ⟨h1, h2⟩ := ih (insR a o) (insR_srt a o h)
   rw [List.foldl_cons]
   refine ⟨h1, h2.trans ?_⟩
   exact ((List.perm_append_left_iff l).2 (insR_perm a o)).trans List.perm_middle
 obtain ⟨h1, h2⟩ := key l [] List.Pairwise.nil
 rw [List.append_nil] at h2
 refine List.Perm.eq_of_pairwise (le := fun a b => leR a b = true) (fun a b _ _ h1 h2 => leR_anti h1 h2) h1 (List.pairwise_mergeSort (le := leR) (fun _ _ _ => leR_trans) leR_total l) ?_
 exact h2.trans (List.mergeSort_perm l leR).symm
theorem Twin.kept {n : Nat} {R : List Pr} {Q : List RR} (h : Twin n R Q) (m : Nat) : keptL m R = rKeptL m Q := by
 unfold keptL rKeptL
 rw [insAll_sort]
 congr 1
 have h1 := its_tw m (fun _ => true) h.eq
 simp only [Bool.and_true] at h1
 unfold itsL modsL
 rw [h1, List.map_map]
 rfl
end
end Go.Proofs.YtlkngpckibidlaaGreat.X

namespace Go.Proofs.YtlkngpckibidlaaGreat.X
open Go Go.AX
noncomputable section
set_option maxRecDepth 100000
theorem rComp_take {m : Nat} {Q : List RR} {k : Nat} {r : RR} (hr : Q[k]? = some r) : rCompR m (Q.take (k + 1)) = if (W.compA r.A m).isEmpty then rCompR m (Q.take k) else rCompR m (Q.take k) ++ [(r.key, W.compA r.A m)] := by
 unfold rCompR
 rw [List.take_add_one, hr, List.filterMap_append]
 cases q : (W.compA r.A m).isEmpty with
 | true => simp only [Option.toList_some, List.filterMap_cons, q, if_true, List.filterMap_nil, List.append_nil]
 | false => simp only [Option.toList_some, List.filterMap_cons, q, Bool.false_eq_true, if_false, List.filterMap_nil]
theorem rComp_len (m : Nat) (Q : List RR) : (rCompR m Q).length ≤ Q.length := List.length_filterMap_le _ _
structure CmI (p : Nat → Prop) (hk : H) (b m : Nat) (Q : List RR) (vk : AV) (n : Nat) (ds : List Nat) (tm : T AV) (h : H) (i : Nat) (v : AV) (X : List RR) : Prop where
 ds : ds = []
 nn : n = Q.length - i
 ii : i ≤ Q.length
 t0 : tm.get 0 = some (.ptr b 0)
 t1 : tm.get 1 = some (.int .u64 (.ofNat m))
 t5 : tm.get 5 = some vk
 t6 : tm.get 6 = some v
 t7 : tm.get 7 = some (.int .i64 (.ofNat i))
 oo : Only hk h []
 gr : Grows 2 hk.nx h v X.length (rrsC X)
 hX : X.map rK = rCompR m (Q.take i)
 gg : ∀ r, r ∈ X → W.RefP (fun c => p c ∧ blkOf v ≠ some c) h (.agg [r.v]) r.A
def PostRC (p : Nat → Prop) (h : H) (b m : Nat) (Q : List RR) (v : AV) (h' : H) : Prop :=
 Only h h' [b] ∧ Grows 2 h.nx h' v (rKeptL m Q).length (W.rvsC (rKeptL m Q)) ∧ ∃ Y s', Y.map rK = rCompR m Q ∧ RIx p h' b Y s' ∧ ∀ c, blkOf s' = some c → h.nx ≤ c
theorem rCompactC {p : Nat → Prop} (h : H) (b m : Nat) (Q : List RR) (s : AV) (hx : RIx p h b Q s) (hz : Q.length ≤ 100000) (hpb : ¬ p b) (hp : ∀ c, h.nx ≤ c → p c) (hu : ∀ r, r ∈ Q → refL r.key Q = r.A) (hAz : ∀ r, r ∈ Q → r.A.length ≤ 900) (hri : ∀ r, r ∈ Q → W.Rising r.A) :
  PushC P (.enter 13 [.ptr b 0, W.n64 m] h) (PostRC p h b m Q) := by
 have hxl := hx.lt
 have hso := W.SliceAt.one hx.sl
 have hlen := hx.sl.len (P := P) u26
 unfold W.n64
 refine pushC_of_codeW (fn := Tryz.f13) (c := bodyC Tryz.f13) Tryz.func13 rfl ?_
 show codeW P 13 57 none _ _ _ _ _
 refine codeW_root ?_
 refine rN0 ?_
 refine ((rKeptC h b m Q s hx hz hu (fun r hr => Nat.le_trans (hAz r hr) (by omega))).call P).mono P ?_
 rintro vk h1 ⟨o1, gk⟩
 have x1 := o1.1
 have gko := gk.one
 have hx1 := hx.keep o1
 refine rN ?_ (gko)
 refine st_loop (fun n ds tm h' => ∃ i v X, CmI p h1 b m Q vk n ds tm h' i v X) Q.length rfl ⟨0, .nilslice, [], rfl, rfl, Nat.zero_le _, by exact sT, by exact sT, by exact sT, by exact sT, by exact sT, Only.refl _ _, .none, rfl, fun _ q => by cases q⟩ (fun n ds tm h2 hI => ?_)
 obtain ⟨i, v, X, rfl, rfl, ii, t0, t1, t5, t6, t7, oo, gr, hX, gg⟩ := hI
 have hxh := hx1.keep oo
 have c0 := hxh.c0
 have gro := gr.one
 have x0 := oo.1
 have hXl : X.length ≤ i := by
  have h1 := congrArg List.length hX
  rw [List.length_map] at h1
  have h2 := rComp_len m (Q.take i)
  rw [List.length_take] at h2
  omega
 by_cases hi : i < Q.length
 ·have d1 : decide (i < Q.length) = true := decide_eq_true hi
  have lt1 : (i < Q.length) = True:= by simp [hi]
  have w1 : wrapF .i64 (Int.ofNat i + Int.ofNat 1) = Int.ofNat (i + 1) := i64_add (by omega)
  obtain ⟨r, hr⟩ : ∃ r, Q[i]? = some r := ⟨_, List.getElem?_eq_getElem hi⟩
  have hrm := List.mem_of_getElem? hr
  have hsl := hxh.sl
  obtain ⟨bl, o, cap, rfl, hbl, -⟩ := hx.sl.place (by omega)
  obtain ⟨p0, p1⟩ := rr_at hsl hr
  obtain ⟨q, hq⟩ : ∃ q : Nat → Prop, q = fun c => p c ∧ blkOf v ≠ some c := ⟨_, rfl⟩
  rw [← hq] at gg
  have hgr : W.RefP q h2 (.agg [r.v]) r.A := (RefP.mono (hx1.gg r hrm) (q := q) (fun c h1 h2 => by rw [hq]; exact ⟨h1, fun e => by have := (gr.base e).1; omega⟩)).keep0 oo
  obtain ⟨_, e', hvo, hvc⟩ := hgr.1.val
  cases e'
  have htk := rComp_take (m := m) hr
  refine rN ?_ (V t0<|V t1<|V t5<|V t6<|V t7<|V c0<|V hlen<|V d1<|V lt1<|V p0<|V p1<|V hvo<|hvc)
  refine ((W.rCompC q h2 _ r.A m (fun c hc => by rw [hq]; exact ⟨hp c (by omega), fun e => by have := (gr.base e).2; omega⟩) hgr (hAz r hrm) (hri r hrm)).call P).mono P ?_
  rintro v3 h3 ⟨o3, g, u, rfl, hg3, -⟩
  obtain ⟨y, rfl, hyo, hyc⟩ := hg3.1.val
  obtain ⟨h4, h4e⟩ : ∃ h4, h4 = (h3.newCells 62 [.nilslice]).sts h3.nx 0 [y] := ⟨_, rfl⟩
  have o4 : Only h3 h4 []:= by rw [h4e]; exact ((Only.refl _ _).new _ _).sts (.inr (Nat.le_refl _))
  have x3 := o3.1
  have x4 : h4.nx = h3.nx + 1:= by rw [h4e, nx_sts, nx_new]
  have z4 : cellAt h4 h3.nx 0 = some y:= by rw [h4e]; exact sT
  have hg4 := hg3.keep0 o4
  have o24 := o3.t o4
  have hxh4 := hxh.keep o24
  have c04 := hxh4.c0
  obtain ⟨q0, q1⟩ := rr_at hxh4.sl hr
  have gr4 : Grows 2 h1.nx h4 v _ _ := gr.of_get o24.1 (fun c e => o24.2 c (gr.base e).2 (by simp))
  have gg4 : ∀ r, r ∈ X → W.RefP q h4 (.agg [r.v]) r.A := fun r hr => (gg r hr).keep0 o24
  have hlen4 : builtinA P .len [60] [y] h4 = .val (.int .i64 (.ofNat (W.compA r.A m).length)) h4 := by
   obtain ⟨⟨_, e', hs, -⟩, -⟩ := hg4
   cases e'
   exact hs.len (P := P) u60 h4 [] []
  cases hA : (W.compA r.A m).isEmpty with
  | true =>
   rw [hA, if_pos rfl] at htk
   have d2 : decide (0 < (W.compA r.A m).length) = false:= by rw [List.isEmpty_iff] at hA; rw [hA]; rfl
   refine rN ?_ (V t0<|V t1<|V t5<|V t6<|V t7<|V hyo<|V hyc<|V h4e.symm<|V z4<|V hlen4<|V d2<|w1)
   exact ⟨Q.length - (i + 1), by omega, i + 1, v, X, rfl, rfl, hi, by exact sT, by exact sT, by exact sT, by exact sT, by exact sT, oo.t o24, gr4, by rw [htk]; exact hX, by rw [← hq]; exact gg4⟩
  | false =>
   rw [hA, if_neg (by simp)] at htk
   have d2 : decide (0 < (W.compA r.A m).length) = true := decide_eq_true (List.length_pos_iff.2 (fun e => by rw [e] at hA; cases hA))
   obtain ⟨h5, h5e⟩ : ∃ h5, h5 = h4.newCells 78 [.str r.key, y] := ⟨_, rfl⟩
   have o5 : Only h4 h5 []:= by rw [h5e]; exact (Only.refl _ _).new _ _
   have x5 : h5.nx = h4.nx + 1:= by rw [h5e]; rfl
   have hrow : h5.row h4.nx 0 2 = some [.str r.key, y] := row_ok (o := 0) (cs := [.str r.key, y]) (fun j hj => by rw [h5e, cellAt_new, Nat.zero_add, if_pos rfl]) (by simp)
   refine rT ?_ (V t0<|V t1<|V t5<|V t6<|V t7<|V hyo<|V hyc<|V h4e.symm<|V z4<|V hlen4<|V d2<|V w1<|V gro<|V c04<|V lt1<|V q0<|V h5e.symm<|hrow)
   have gr5 : Grows 2 h1.nx h5 v _ _ := gr4.of_get o5.1 (fun c e => o5.2 c (gr4.base e).2 (by simp))
   refine exW_grows (m := 1) (new := [.str r.key, y]) gr5 (by omega) (by omega) (by omega) rfl (by omega) (fun v6 h6 g6 x6 old6 blk6 => ?_)
   have g6o := g6.one
   have o25 := o24.t o5
   have o6 : Only h1 h6 [] := ⟨by omega, fun c hc _ => by rw [old6 c (by omega) (fun e => by have := (gr5.base e).1; omega), o25.2 c (by omega) (by simp), oo.2 c hc (by simp)]⟩
   have oV : Only h5 h6 (rowL v) := ⟨by omega, fun c hc hn => old6 c hc (fun e => hn (by unfold rowL; rw [e]; simp))⟩
   have hS : ∀ c, c ∈ rowL v → ¬ (q c ∧ c ≠ h5.nx) := fun c hc => by
    unfold rowL at hc
    split at hc
    ·rename_i c' e
     rw [List.mem_singleton] at hc
     subst hc
     rw [hq]
     exact fun e2 => e2.1.2 e
    ·cases hc
   have ggn : ∀ A y', W.RefP q h5 (.agg [y']) A → W.RefP (fun c => p c ∧ blkOf v6 ≠ some c) h6 (.agg [y']) A := fun A y' hr =>
    RefP.mono ((RefP.mono hr (q := fun c => q c ∧ c ≠ h5.nx) (fun c h1 h2 => ⟨h1, by omega⟩)).keep oV hS) (fun c h1 h2 => by
     rw [hq] at h1
     exact ⟨h1.1.1, fun e => by rw [blk6] at e; cases e; exact h1.2 rfl⟩)
   refine rT ?_ (V t0<|V t1<|V t5<|V t6<|V t7<|V g6o<|w1)
   have hXn : (X ++ [(⟨r.key, W.compA r.A m, y⟩ : RR)]).length = X.length + 1:= by simp
   have hXc : rrsC (X ++ [(⟨r.key, W.compA r.A m, y⟩ : RR)]) = rrsC X ++ [.str r.key, y]:= by rw [rrs_app]; rfl
   refine ⟨Q.length - (i + 1), by omega, i + 1, v6, X ++ [⟨r.key, W.compA r.A m, y⟩], rfl, rfl, hi, by exact sT, by exact sT, by exact sT, by exact sT, by exact sT, o6, by rw [hXn, hXc]; exact g6, by rw [htk, List.map_append, hX]; rfl, fun r2 hr2 => ?_⟩
   rcases List.mem_append.1 hr2 with e | e
   ·exact ggn _ _ ((gg4 r2 e).keep0 o5)
   ·rw [List.mem_singleton] at e
    subst e
    exact ggn _ _ (hg4.keep0 o5)
 ·
  have d1 : decide (i < Q.length) = false := decide_eq_false hi
  obtain rfl : i = Q.length:= by omega
  rw [List.take_length] at hX
  have w0 := hxh.wr
  have gsc := gr.cells
  have o02 := o1.t oo
  have o7 : Only h (h2.sts b 0 [v]) [b] := (Only.wide o02).sts (.inl (by simp))
  have o27 : Only h2 (h2.sts b 0 [v]) [b] := (Only.refl _ _).sts (.inl (by simp))
  have gk2 : Grows 2 h.nx (h2.sts b 0 [v]) vk _ _ := gk.of_get (by rw [nx_sts]; omega) (fun c e => by
   have := gk.base e
   rw [o27.2 c (by omega) (by simp; omega), oo.2 c this.2 (by simp)])
  have hb6 : ∀ c, blkOf v = some c → h1.nx ≤ c ∧ c < h2.nx := fun c e => gr.base e
  have fin : PostRC p h b m Q vk (h2.sts b 0 [v]) := ⟨o7, gk2, X, v, hX, ⟨by rw [nx_sts]; omega, by rw [cellAt_sts w0, if_pos ⟨rfl, Nat.le_refl _, by simp⟩]; rfl, by rw [wrAt_sts]; exact w0,
   (gr.of_get (by rw [nx_sts]; exact Nat.le_refl _) (fun c e => o27.2 c (hb6 c e).2 (by have := (hb6 c e).1; simp; omega))).weak (Nat.zero_le _),
   fun r hr => (RefP.mono (gg r hr) (fun c h1 _ => h1.1)).keep o27 (fun c hc => by rw [List.mem_singleton] at hc; subst hc; exact hpb),
   fun e => by have := (hb6 _ e).1; omega⟩, fun c e => by have := (hb6 c e).1; omega⟩
  refine rN ?_ (V t0<|V t1<|V t5<|V t6<|V t7<|V c0<|V hso<|V hlen<|V d1<|V gro<|V gsc<|V w0<|gko)
  exact fin
end
end Go.Proofs.YtlkngpckibidlaaGreat.X

namespace Go.Proofs.YtlkngpckibidlaaGreat.X
open Go Go.AX
noncomputable section
set_option maxRecDepth 100000
variable {N : Nat → Prop}
structure CJ (hk : H) (b3 : Nat) (R : List Pr) (m : Nat) (r : ALoop) (k : Nat) (mv : Option Nat) (h : H) : Prop where
 nx : hk.nx + 7 ≤ h.nx
 old : ∀ b, b < hk.nx → h.t.get b = hk.t.get b
 hl : h.t.get (hk.nx + 6) = some (.loop r)
 hd : h.t.get (hk.nx + 5) = some (.deferred (some []))
 w6 : wrAt h hk.nx = true
 sv : ∃ sv X, cellAt h hk.nx 0 = some sv ∧ Grows 2 (hk.nx + 7) h sv X.length (prsC X) ∧ blkOf sv = mv ∧ X.map kl = compR m (R.take k) ∧ (X = [] → sv = .nilslice) ∧ ∀ p, p ∈ X → W.GensP (fun c => mv ≠ some c ∧ hk.nx + 7 ≤ c) h (.agg [p.v]) p.L
 tm : r.tm.get 3 = some (.ptr b3 0) ∧ r.tm.get 6 = some (.ptr hk.nx 0)
theorem CJ.keep {hk : H} {b3 : Nat} {R : List Pr} {m : Nat} {r : ALoop} {k : Nat} {mv : Option Nat} {h h' : H} (hj : CJ hk b3 R m r k mv h) (ho : Only h h' []) : CJ hk b3 R m r k mv h' := by
 obtain ⟨nx, old, hl, hd, w6, ⟨sv, X, sc, sg, sb, sx, sn, sp⟩, tm⟩ := hj
 have e := fun b (hb : b < h.nx) => ho.2 b hb (by simp)
 have ec := fun b (hb : b < h.nx) => cellAt_of_get (e b hb)
 have ew := fun b (hb : b < h.nx) => wrAt_of_get (e b hb)
 exact ⟨Nat.le_trans nx ho.1, fun b hb => by rw [e b (by omega), old b hb], by rw [e _ (by omega)]; exact hl, by rw [e _ (by omega)]; exact hd, by rw [ew _ (by omega)]; exact w6,
  ⟨sv, X, by rw [ec _ (by omega)]; exact sc, sg.of_get ho.1 (fun b hb => e b (sg.base hb).2), sb, sx, sn, fun p hp => (sp p hp).keep0 ho⟩, tm⟩
def bodyK : List Nat := [0, 1, 0, 1, 1, 1, 1]
noncomputable abbrev compRr (hk : H) (tm : T AV) : ALoop := loopR 12 43 tm [20, 21] (codeI (bodyC Tryz.f12) (0 :: bodyK)) (codeI (bodyC Tryz.f12) (1 :: bodyK)) (hk.nx + 5) .ready
theorem compRound (hk : H) (b3 : Nat) (R : List Pr) (m : Nat) (tm : T AV) (hlen : R.length ≤ 100000) (k : Nat) (mv : Option Nat) (h : H) (p : Pr) (hj : CJ hk b3 R m (compRr hk tm) k mv h) (hb3 : b3 < hk.nx) (c3 : cellAt hk b3 0 = some (.int .u64 (.ofNat m)))
  (hp : R[k]? = some p) (hg : W.GensAt hk (.agg [p.v]) p.L) (hz : W.Sz 1000 p.L) :
  PushC P (.round (hk.nx + 6) [.str p.key, .agg [p.v]] h) fun v h' => v = .bool true ∧ ∃ mv', CJ hk b3 R m (compRr hk tm) (k + 1) mv' h' ∧ W.OnlyM h h' [hk.nx, hk.nx + 6] mv ∧ (mv' = mv ∨ ∃ b, mv' = some b ∧ h.nx ≤ b) := by
 obtain ⟨nx, old, hl, hd, w6, ⟨sv, X, sc, sg, sb, sx, sn, sp⟩, q3, q6⟩ := hj
 obtain ⟨_, e', hgo, hgc⟩ := hg.val
 cases e'
 refine round_walk (tm := (tm.set 20 (some (.str p.key))).set 21 (some (.agg [p.v]))) hl rfl ?_
 show codeW P 12 43 (some (hk.nx + 6)) (codeI (bodyC Tryz.f12) (0 :: bodyK)) _ _ _ _
 unfold bodyK
 have q3 : tm.get 3 = some (.ptr b3 0) := q3
 have q6 : tm.get 6 = some (.ptr hk.nx 0) := q6
 refine rN ?_ (V hgo<|hgc)
 refine asg_norm (by rw [get_sts _ _ _ _ (by omega), get_new _ _ _ (by omega)]; exact hl) rfl ?_
 show codeW P 12 43 (some (hk.nx + 6)) (codeI (bodyC Tryz.f12) [1, 0, 1, 0, 1, 1, 1, 1]) _ _ _ _
 obtain ⟨h1, e1⟩ : ∃ h1, h1 = ((h.newCells 55 [.nilslice]).sts h.nx 0 [p.v]).obj (hk.nx + 6) (.loop { compRr hk tm with state := .busy }) := ⟨_, rfl⟩
 have hl1 : h1.t.get (hk.nx + 6) = some (.loop { compRr hk tm with state := .busy }):= by rw [e1]; exact get_obj_self _ _
 have hx1 : h1.nx = h.nx + 1:= by rw [e1, nx_obj, nx_sts, nx_new]
 have hget1 : ∀ b, b < h.nx → b ≠ hk.nx + 6 → h1.t.get b = h.t.get b := fun b hb hne => by rw [e1, get_obj_ne hne, get_sts _ _ _ _ (by omega), get_new _ _ _ (by omega)]
 have d0 : cellAt h1 h.nx 0 = some p.v:= by rw [e1, cellAt_obj (by omega), cellAt_sts (by rw [wrAt_new, if_pos rfl]), if_pos ⟨rfl, Nat.le_refl _, by simp⟩]; rfl
 have hc0 : cellAt h1 b3 0 = some (.int .u64 (.ofNat m)):= by rw [cellAt_of_get (hget1 _ (by omega) (by omega)), cellAt_of_get (old b3 hb3)]; exact c3
 have hgh : W.GensAt h1 (.agg [p.v]) p.L := hg.keep ⟨by omega, fun b hb _ => by rw [hget1 b (by omega) (by omega)]; exact old b hb⟩
 rw [← e1]
 refine rN ?_ (V q3<|V q6<|V hc0<|V d0<|V hgo<|hgc)
 refine ((W.compC (fun c => h1.nx ≤ c) h1 (.agg [p.v]) p.L m (fun _ h => h) hgh hz).call P).mono P ?_
 rintro v h2 ⟨ho2, gv, kv, rfl, hgp, -⟩
 obtain ⟨g, rfl, hgo2, hgc2⟩ := hgp.val
 have hx2 := ho2.1
 have hget2 : ∀ b, b < h.nx → b ≠ hk.nx + 6 → h2.t.get b = h.t.get b := fun b hb hne => by rw [ho2.2 b (by omega) (by simp), hget1 b hb hne]
 have hl2 : h2.t.get (hk.nx + 6) = some (.loop { compRr hk tm with state := .busy }):= by rw [ho2.2 _ (by omega) (by simp)]; exact hl1
 obtain ⟨h3, e3⟩ : ∃ h3, h3 = (h2.newCells 55 [.nilslice]).sts h2.nx 0 [g] := ⟨_, rfl⟩
 have o3 : Only h2 h3 []:= by rw [e3]; exact ((Only.refl _ _).new _ _).sts (.inr (Nat.le_refl _))
 have x3 : h3.nx = h2.nx + 1:= by rw [e3, nx_sts, nx_new]
 have d3 : cellAt h3 h2.nx 0 = some g:= by rw [e3, cellAt_sts (by rw [wrAt_new, if_pos rfl]), if_pos ⟨rfl, Nat.le_refl _, by simp⟩]; rfl
 refine rN ?_ (V hgo2<|V hgc2<|V q3<|V q6<|V e3.symm<|d3)
 refine ((W.emptyC h3 (.agg [g]) (W.compL p.L m) (hgp.keep0 o3).at (W.sz_comp hz m)).call P).mono P ?_
 rintro v h4 ⟨rfl, o4⟩
 have x4 := o4.1
 have hget4 : ∀ b, b < h.nx → b ≠ hk.nx + 6 → h4.t.get b = h.t.get b := fun b hb hne => by rw [o4.2 b (by omega) (by simp), o3.2 b (by omega) (by simp), hget2 b hb hne]
 have hl4 : h4.t.get (hk.nx + 6) = some (.loop { compRr hk tm with state := .busy }):= by rw [o4.2 _ (by omega) (by simp), o3.2 _ (by omega) (by simp)]; exact hl2
 have d4 := W.kcell d3 o4 (by omega) (by simp)
 have hgp4 := (hgp.keep0 o3).keep0 o4
 have hc6 : cellAt h4 hk.nx 0 = some sv:= by rw [cellAt_of_get (hget4 _ (by omega) (by omega))]; exact sc
 have lt := compR_take (m := m) hp
 cases hem : (W.compL p.L m).isEmpty with
 | true =>
  rw [hem, if_pos rfl] at lt
  refine rN ?_ (V @Bool.not_true<|@Bool.not_false)
  have q : ∀ b, b < h.nx → b ≠ hk.nx + 6 → (h4.obj (hk.nx + 6) (.loop (compRr hk tm))).t.get b = h.t.get b := fun b hb hne => by rw [get_obj_ne hne, hget4 b hb hne]
  refine roundEnd_norm hl4 rfl rfl ⟨rfl, mv, ?_, ⟨by rw [nx_obj]; omega, fun b hb hs _ => q b hb (fun e => hs (by simp [e]))⟩, .inl rfl⟩
  refine ⟨by rw [nx_obj]; omega, fun b hb => by rw [q b (by omega) (by omega)]; exact old b hb, get_obj_self _ _, by rw [q _ (by omega) (by omega)]; exact hd,
   by rw [wrAt_of_get (q _ (by omega) (by omega))]; exact w6,
   ⟨sv, X, by rw [cellAt_of_get (q _ (by omega) (by omega))]; exact sc, ?_, sb, by rw [lt]; exact sx, sn, fun p' hp' => ?_⟩, q3, q6⟩
  ·exact sg.of_get (by rw [nx_obj]; omega) (fun b hb => q b (sg.base hb).2 (by have := (sg.base hb).1; omega))
  ·have oX : Only h (h4.obj (hk.nx + 6) (.loop (compRr hk tm))) [hk.nx + 6] := ⟨by rw [nx_obj]; omega, fun b hb hs => q b hb (fun e => hs (by simp [e]))⟩
   exact (sp p' hp').keep oX (fun c hc e => by simp at hc; omega)
 | false =>
  rw [hem, if_neg (by simp)] at lt
  obtain ⟨h5, e5⟩ : ∃ h5, h5 = h4.newCells 75 [.str p.key, g] := ⟨_, rfl⟩
  have o5 : Only h4 h5 []:= by rw [e5]; exact (Only.refl _ _).new _ _
  have x5 : h5.nx = h4.nx + 1:= by rw [e5, nx_new]
  have n0 : cellAt h5 h4.nx 0 = some (.str p.key):= by rw [e5]; exact sT
  have n1 : cellAt h5 h4.nx 1 = some g:= by rw [e5]; exact sT
  refine rN ?_ (V @Bool.not_true<|V @Bool.not_false<|V q3<|V q6<|V hc6<|V d4<|V hgo2<|V hgc2<|V e5.symm<|V n0<|n1)
  have hXl : X.length ≤ 100000 := by
   have h1 : X.length = (compR m (R.take k)).length:= by rw [← sx, List.length_map]
   have h2 := compR_len m (R.take k)
   rw [List.length_take] at h2; omega
  have hmv : ∀ b, mv = some b → hk.nx + 7 ≤ b ∧ b < h.nx := fun b qq => sg.base (sb.trans qq)
  refine exW_grows (m := 1) (new := [.str p.key, g]) (base := hk.nx + 7) (h := h5) (sg.of_get (by omega) (fun b hb => by have := sg.base hb; rw [o5.2 b (by omega) (by simp), hget4 b (by omega) (by omega)])) (by omega) (by omega) (by omega) rfl (by omega) ?_
  intro v' h6 hg' hnx hold hblk
  have hpr : prsC X ++ [.str p.key, g] = prsC (X ++ [⟨p.key, W.compL p.L m, g⟩]):= by simp [prsC, prC]
  rw [hpr] at hg'
  have q4 : ∀ b, b < h4.nx → mv ≠ some b → h6.t.get b = h4.t.get b := fun b hb hm => by
   rw [hold b (by omega) (by rw [sb]; exact hm), o5.2 b hb (by simp)]
  have q : ∀ b, b < h.nx → b ≠ hk.nx + 6 → mv ≠ some b → h6.t.get b = h.t.get b := fun b hb hne hm => by rw [q4 b (by omega) hm, hget4 b hb hne]
  have hm6 : mv ≠ some (hk.nx + 6) := fun e => by have := (hmv _ e).1; omega
  have hm0 : ∀ b, b < hk.nx + 7 → mv ≠ some b := fun b hb e => by have := (hmv _ e).1; omega
  have hw6 : wrAt h6 hk.nx = true:= by rw [wrAt_of_get (q _ (by omega) (by omega) (hm0 _ (by omega)))]; exact w6
  have hl6 : h6.t.get (hk.nx + 6) = some (.loop { compRr hk tm with state := .busy }):= by rw [q4 _ (by omega) hm6]; exact hl4
  have hcv := hg'.cells
  have hov := hg'.one
  have hc66 : cellAt h6 hk.nx 0 = some sv:= by rw [cellAt_of_get (q _ (by omega) (by omega) (hm0 _ (by omega)))]; exact sc
  refine rN ?_ (V q6<|V @put_sts<|V hw6<|V hc66<|V hcv<|hov)
  have g7 : ∀ b, b ≠ hk.nx → b ≠ hk.nx + 6 → ((h6.sts hk.nx 0 [v']).obj (hk.nx + 6) (.loop (compRr hk tm))).t.get b = h6.t.get b := fun b n1 n2 => by rw [get_obj_ne n2, get_sts _ _ _ _ n1]
  obtain ⟨h7, e7⟩ : ∃ h7, h7 = (h6.sts hk.nx 0 [v']).obj (hk.nx + 6) (.loop (compRr hk tm)) := ⟨_, rfl⟩
  have x7 : h7.nx = h6.nx:= by rw [e7, nx_obj, nx_sts]
  rw [← e7] at g7
  refine roundEnd_norm (by rw [get_sts _ _ _ _ (by omega)]; exact hl6) rfl rfl ?_
  show _ ∧ ∃ mv', CJ hk b3 R m (compRr hk tm) (k + 1) mv' ((h6.sts hk.nx 0 [v']).obj (hk.nx + 6) (.loop (compRr hk tm))) ∧ W.OnlyM h ((h6.sts hk.nx 0 [v']).obj (hk.nx + 6) (.loop (compRr hk tm))) _ mv ∧ _
  rw [← e7]
  refine ⟨rfl, blkOf v', ?_, ⟨by omega, fun b hb hs hm => ?_⟩, .inr ⟨_, hblk, by omega⟩⟩
  ·refine ⟨by omega, fun b hb => by rw [g7 b (by omega) (by omega), q b (by omega) (by omega) (hm0 _ (by omega))]; exact old b hb, by rw [e7]; exact get_obj_self _ _,
    by rw [g7 _ (by omega) (by omega), q _ (by omega) (by omega) (hm0 _ (by omega))]; exact hd,
    by rw [e7, wrAt_obj (by omega), wrAt_sts]; exact hw6, ⟨v', X ++ [⟨p.key, W.compL p.L m, g⟩], ?_, ?_, rfl, ?_, fun e => by simp at e, fun p' hp' => ?_⟩, q3, q6⟩
   ·rw [e7, cellAt_obj (by omega), cellAt_sts hw6, if_pos ⟨rfl, Nat.le_refl _, by simp⟩]; rfl
   ·rw [show (X ++ [(⟨p.key, W.compL p.L m, g⟩ : Pr)]).length = X.length + 1 by simp]
    refine hg'.of_get (by omega) (fun b hb => g7 b ?_ ?_)
    ·rw [hblk] at hb; cases hb; omega
    ·rw [hblk] at hb; cases hb; omega
   ·rw [List.map_append, sx, lt]; rfl
   ·have oX : Only h h7 (hk.nx :: (hk.nx + 6) :: mv.toList) := ⟨by omega, fun b hb hs => by
     simp only [List.mem_cons, not_or] at hs
     rw [g7 b hs.1 hs.2.1, q b hb hs.2.1 (fun e => hs.2.2 (by rw [e]; simp))]⟩
    have oY : Only h4 h7 (hk.nx :: (hk.nx + 6) :: mv.toList) := ⟨by omega, fun b hb hs => by
     simp only [List.mem_cons, not_or] at hs
     rw [g7 b hs.1 hs.2.1, q4 b hb (fun e => hs.2.2 (by rw [e]; simp))]⟩
    rcases List.mem_append.1 hp' with hp' | hp'
    ·refine (((sp p' hp').mono (q := fun c => (mv ≠ some c ∧ hk.nx + 7 ≤ c) ∧ c < h.nx) fun c hc e => ⟨e, hc⟩).keep oX (fun c hc e => ?_)).mono (fun c _ e => ⟨fun e2 => ?_, e.1.2⟩)
     ·simp only [List.mem_cons] at hc
      rcases hc with rfl | rfl | hc
      ·omega
      ·omega
      ·exact e.1.1 (by cases mv <;> simp_all)
     ·rw [hblk] at e2; cases e2; omega
    ·simp only [List.mem_singleton] at hp'
     subst hp'
     refine ((hgp4.mono (q := fun c => h1.nx ≤ c ∧ c < h4.nx) fun c hc e => ⟨e, hc⟩).keep oY (fun c hc e => ?_)).mono (fun c _ e => ⟨fun e2 => ?_, by omega⟩)
     ·simp only [List.mem_cons] at hc
      rcases hc with rfl | rfl | hc
      ·omega
      ·omega
      ·have hc : mv = some c:= by cases mv <;> simp_all
       have := (hmv _ hc).2; omega
     ·rw [hblk] at e2; cases e2; omega
  ·simp only [List.mem_cons, List.mem_nil_iff, or_false, not_or] at hs
   rw [g7 b hs.1 hs.2, q b hb hs.2 hm]
theorem from_all (R : List Pr) : fromL [] [] true R = R := by
 unfold fromL
 rw [srt_none, List.drop_zero]
 exact take_all R fun p => rfl
theorem _root_.Go.AX.Grows.row {base : Nat} {h : H} {v : AV} {n : Nat} {cs : List AV} (hg : Grows 2 base h v n cs) (hn : n = 0 → v = .nilslice) : RowV h v n cs := by
 cases hg with
 | none => exact .nil
 | cell b n cs t ty h1 h2 h3 h4 h5 =>
  exact .opn b n (n * 2) ty cs (by rcases Nat.eq_zero_or_pos n with e | e; (cases hn e); exact e) h3 (Nat.le_refl _) ⟨h2, t, h4, fun j _ => h5 j⟩
theorem compLoop (hk h2 : H) (b b3 m : Nat) (R : List Pr) (s : AV) (hx : IxR N hk b R s) (hz : ∀ p, p ∈ R → W.Sz 1000 p.L) (tm : T AV) (o2 : Only hk h2 []) (x2 : h2.nx = hk.nx + 5)
  (hb3 : b3 < hk.nx) (c3 : cellAt hk b3 0 = some (.int .u64 (.ofNat m)))
  (q1 : cellAt h2 (hk.nx + 1) 0 = some (.ptr b 0)) (q2 : cellAt h2 (hk.nx + 2) 0 = some (.str [])) (q3 : cellAt h2 (hk.nx + 4) 0 = some (.bool true)) (q4 : cellAt h2 (hk.nx + 3) 0 = some (.str []))
  (c6 : cellAt h2 hk.nx 0 = some .nilslice) (w6 : wrAt h2 hk.nx = true)
  (q7 : tm.get 3 = some (.ptr b3 0)) (q10 : tm.get 6 = some (.ptr hk.nx 0)) (q29 : tm.get 19 = some (fromV (hk.nx + 1))) (Q : KQ)
  (hQ : ∀ h3 v X, Only hk h3 [] → hk.nx + 7 ≤ h3.nx → h3.t.get (hk.nx + 5) = some (.deferred (some [])) → cellAt h3 hk.nx 0 = some v → Grows 2 (hk.nx + 7) h3 v X.length (prsC X) → X.map kl = compR m R → (X = [] → v = .nilslice) →
   (∀ p, p ∈ X → W.GensP (fun c => blkOf v ≠ some c ∧ hk.nx + 7 ≤ c) h3 (.agg [p.v]) p.L) → Q .norm [hk.nx + 5] tm h3) :
  codeW P 12 43 none (codeI (bodyC Tryz.f12) bodyK) [] tm h2 Q := by
 unfold bodyK
 refine st_rf rfl (f := .tmp 19) (ps := #[20, 21]) rfl rfl ?_
 refine rf_walk (g := 61) (cap := [.ptr (hk.nx + 1) 0, .ptr (hk.nx + 1 + 1) 0, .ptr (hk.nx + 1 + 3) 0, .ptr (hk.nx + 1 + 2) 0]) (by rw [evalA_tmp, q29]; rfl) (fun args h => callV_func 61 (by kernel_rfl) [] _ args) ?_
 have hbase : ∀ b, b < h2.nx → (loopH h2 12 43 tm [20, 21] (codeI (bodyC Tryz.f12) (0 :: bodyK)) (codeI (bodyC Tryz.f12) (1 :: bodyK))).t.get b = h2.t.get b := fun b hb => by rw [loopH_get, if_neg (by omega), if_neg (by omega)]
 have hbc := fun b (hb : b < h2.nx) => cellAt_of_get (hbase b hb)
 have hJ0 : CJ hk b3 R m (compRr hk tm) 0 none (loopH h2 12 43 tm [20, 21] (codeI (bodyC Tryz.f12) (0 :: bodyK)) (codeI (bodyC Tryz.f12) (1 :: bodyK))) := by
  exact ⟨by rw [loopH_nx]; omega, fun b hb => by rw [hbase b (by omega)]; exact o2.2 b hb (by simp), by rw [loopH_get, if_pos (by omega), x2], by rw [loopH_get, if_neg (by omega), if_pos (by omega)],
   by rw [wrAt_of_get (hbase _ (by omega))]; exact w6, ⟨.nilslice, [], by rw [hbc _ (by omega)]; exact c6, .none, rfl, rfl, fun _ => rfl, fun p hp => by cases hp⟩, q7, q10⟩
 have oL : Only hk (loopH h2 12 43 tm [20, 21] (codeI (bodyC Tryz.f12) (0 :: bodyK)) (codeI (bodyC Tryz.f12) (1 :: bodyK))) [] := ⟨by have := hJ0.nx; omega, fun b hb _ => hJ0.old b hb⟩
 have hxL := hx.keep oL
 have hlt := hx.ix.lt
 have hbs := hx.ix.sl.blk
 rw [x2]
 refine (fromRun _ (hk.nx + 6) b (hk.nx + 1) (hk.nx + 1 + 1) (hk.nx + 1 + 3) (hk.nx + 1 + 2) [] [] true R s [hk.nx, hk.nx + 6] (CJ hk b3 R m (compRr hk tm)) hxL (by rw [hbc _ (by omega)]; exact q1) (by rw [hbc _ (by omega)]; exact q2) (by rw [hbc _ (by omega)]; exact q3) (by rw [hbc _ (by omega)]; exact q4)
  (by rw [loopH_nx]; omega) ?_ (fun _ _ _ _ hj ho => hj.keep ho)
  (fun i mv h p hj _ hp => by
   rw [from_all] at hp
   have hpR := List.mem_of_getElem? hp
   exact compRound hk b3 R m tm hx.ix.zz i mv h p hj hb3 c3 hp (hx.ix.gg p hpR).at (hz p hpR)) hJ0).mono P ?_
 ·intro c hc
  rw [loopH_nx, x2]
  simp only [List.mem_cons, List.mem_nil_iff, or_false] at hc
  refine ⟨by omega, by omega, by omega, fun e => ?_⟩
  have := hbs c e
  omega
 rintro _ h3 ⟨mv, hj, -, -⟩
 rw [from_all] at hj
 obtain ⟨nx, old, hl, hd, w6', ⟨sv, X, sc, sg, sb, sx, sn, sp⟩, -⟩ := hj
 rw [List.take_length] at sx
 refine ⟨hl, ?_⟩
 obtain ⟨h4, e4⟩ : ∃ h4, h4 = h3.obj (hk.nx + 6) (.loop (loopR 12 43 tm [20, 21] (codeI (bodyC Tryz.f12) (0 :: bodyK)) (codeI (bodyC Tryz.f12) (1 :: bodyK)) (hk.nx + 5) .exhausted)) := ⟨_, rfl⟩
 show Q .norm [hk.nx + 5] tm (h3.obj (hk.nx + 6) (.loop (loopR 12 43 tm [20, 21] (codeI (bodyC Tryz.f12) (0 :: bodyK)) (codeI (bodyC Tryz.f12) (1 :: bodyK)) (hk.nx + 5) .exhausted)))
 rw [← e4]
 have g4 : ∀ b, b ≠ hk.nx + 6 → h4.t.get b = h3.t.get b := fun b hb => by rw [e4, get_obj_ne hb]
 have x4 : h4.nx = h3.nx:= by rw [e4, nx_obj]
 have oX : Only h3 h4 [hk.nx + 6] := ⟨by omega, fun b _ hs => g4 b (fun e => hs (by simp [e]))⟩
 refine hQ h4 sv X ⟨by omega, fun b hb _ => by rw [g4 _ (by omega)]; exact old b hb⟩ (by omega) (by rw [g4 _ (by omega)]; exact hd) (by rw [cellAt_of_get (g4 _ (by omega))]; exact sc)
  (sg.of_get (by omega) (fun b hb => by have := sg.base hb; rw [g4 _ (by omega)])) sx sn (fun p hp => ((sp p hp).keep oX (fun c hc e => by simp at hc; omega)).mono fun c _ e => by rw [sb]; exact e)
theorem compactC0 (h0 : H) (b m : Nat) (R : List Pr) (s : AV) (hx : IxR N h0 b R s) (hz : ∀ p, p ∈ R → W.Sz 1000 p.L) :
  PushC P (.enter 12 [.ptr b 0, W.n64 m] h0) fun v h' => Only h0 h' [b] ∧ Grows 2 h0.nx h' v (keptL m R).length (W.rvsC (keptL m R)) ∧ ∃ R' s', R'.map kl = compR m R ∧ IxO N h' b R' s' ∧ (∀ c, blkOf v = some c → blkOf s' ≠ some c) ∧ ∀ c, blkOf s' = some c → h0.nx ≤ c := by
 have b0 : bytesOf { data := #[] } = [] := rfl
 obtain ⟨h1, h1e⟩ : ∃ h1, h1 = h0.newCells 29 [.int .u64 (.ofNat m)] := ⟨_, rfl⟩
 have o1 : Only h0 h1 []:= by rw [h1e]; exact (Only.refl _ _).new _ _
 have x1 : h1.nx = h0.nx + 1:= by rw [h1e]; rfl
 have c0 : cellAt h1 h0.nx 0 = some (.int .u64 (.ofNat m)):= by rw [h1e]; exact sT
 unfold W.n64
 refine pushC_of_codeW (fn := Tryz.f12) (c := bodyC Tryz.f12) Tryz.func12 rfl ?_
 show codeW P 12 43 none _ _ _ _ _
 refine codeW_root ?_
 refine rN ?_ (V b0<|V h1e.symm<|c0)
 refine ((keptC h1 b m R s (hx.keep o1) hz).call P).mono P ?_
 rintro v hk ⟨o2, g2⟩
 have go2 := g2.one
 have oK := o1.t o2
 have x2 := o2.1
 have hxk := (hx.keep o1).keep o2
 have hlt := hx.ix.lt
 have xb := oK.1
 obtain ⟨h3, h3e⟩ : ∃ h3, h3 = hk.newCells 47 [.nilslice] := ⟨_, rfl⟩
 have o3 : Only hk h3 []:= by rw [h3e]; exact (Only.refl _ _).new _ _
 have x3 : h3.nx = hk.nx + 1:= by rw [h3e]; rfl
 have z3 : cellAt h3 hk.nx 0 = some .nilslice:= by rw [h3e]; exact sT
 have w3 : wrAt h3 hk.nx = true:= by rw [h3e]; exact sT
 refine rN ?_ (V go2<|V b0<|h3e.symm)
 refine ((fromC h3 b [] [] true).call P).mono P ?_
 rintro v4 h4 ⟨rfl, o4, x4, f0, f1, f3, f2⟩
 rw [x3] at f0 f1 f2 f3 x4
 rw [x3]
 have ck := W.kcell c0 o2 (by omega) (by simp)
 refine rN0 ?_
 refine compLoop hk h4 b h0.nx m R s hxk hz _ (o3.t o4) x4 (by omega) ck f0 f1 f3 f2 (W.kcell z3 o4 (by omega) (by simp)) (W.kwr w3 o4 (by omega) (by simp)) (by exact sT) (by exact sT) (by exact sT) _ ?_
 intro h5 sv X o5 x5 hd sc sg sx sn sp
 have so := sg.one
 have sce := sg.cells
 have cb : cellAt h5 b 0 = some s := W.kcell hxk.ix.c0 o5 (by omega) (by simp)
 have wb : wrAt h5 b = true := W.kwr hxk.wr o5 (by omega) (by simp)
 refine rN ?_ (V so<|V sce<|V sc<|V cb<|V wb<|V @put_sts<|go2)
 have hbk : ∀ c, blkOf sv = some c → hk.nx + 7 ≤ c ∧ c < h5.nx := fun c e => sg.base e
 have hbv : ∀ c, blkOf v = some c → h1.nx ≤ c ∧ c < hk.nx := fun c e => g2.base e
 refine retW_undef (by rw [get_sts _ _ _ _ (by omega)]; exact hd) rfl ?_
 (conv => arg 2; whnf)
 simp only [B, F, reduceLT, reduceLeDiff, reduceEqDiff, reduceAdd, reduceMul, reduceSub, ↓reduceIte, eq_self]
 obtain ⟨h6, h6e⟩ : ∃ h6, h6 = (h5.sts b 0 [sv]).obj (hk.nx + 5) (.deferred none) := ⟨_, rfl⟩
 rw [← h6e]
 have g6 : ∀ c, c ≠ b → c ≠ hk.nx + 5 → h6.t.get c = h5.t.get c := fun c n1 n2 => by rw [h6e, get_obj_ne n2, get_sts _ _ _ _ n1]
 have x6 : h6.nx = h5.nx:= by rw [h6e, nx_obj, nx_sts]
 have oF : Only h0 h6 [b] := ⟨by omega, fun c hc hn => by rw [g6 c (fun e => hn (by simp [e])) (by omega)]; exact (oK.t o5).2 c hc (by simp)⟩
 have oG : Only h5 h6 [b, hk.nx + 5] := ⟨by omega, fun c hc hn => g6 c (fun e => hn (by simp [e])) (fun e => hn (by simp [e]))⟩
 refine ⟨oF, ?_, X, sv, sx, ⟨⟨by omega, ?_, ?_, fun p hp => ?_, compR_srt m hx.ix.sr sx, ?_, fun c hc => hx.ix.fl c (by omega)⟩, ?_, ?_, fun e => by have := (hbk b e).1; omega⟩, fun c e e2 => by have := hbk c e2; have := hbv c e; omega, fun c e => by have := hbk c e; omega⟩
 ·exact (g2.weak (by omega)).of_get (by omega) (fun c e => by have := hbv c e; rw [g6 c (by omega) (by omega), o5.2 c (by omega) (by simp)])
 ·rw [h6e, cellAt_obj (by omega), cellAt_sts wb, if_pos ⟨rfl, Nat.le_refl _, by simp⟩]; rfl
 ·exact (sg.of_get (h' := h6) (by omega) (fun c e => by have := hbk c e; exact g6 c (by omega) (by omega))).slice
 ·exact ((sp p hp).keep oG (fun c hc e => by simp at hc; omega)).mono fun c _ e => ⟨by omega, e.1, hx.ix.fl c (by omega)⟩
 ·have h1 : X.length = (compR m R).length:= by rw [← sx, List.length_map]
  have h2 := compR_len m R
  have := hx.ix.zz
  omega
 ·exact (sg.of_get (h' := h6) (by omega) (fun c e => by have := hbk c e; exact g6 c (by omega) (by omega))).row (fun e => sn (List.length_eq_zero_iff.1 e))
 ·rw [h6e, wrAt_obj (by omega), wrAt_sts]; exact wb
theorem compactC (h : H) (b m : Nat) (R : List Pr) (s : AV) (hx : IxR N h b R s) (hz : ∀ p, p ∈ R → W.Sz 1000 p.L) :
  PushC P (.enter 12 [.ptr b 0, W.n64 m] h) fun v h' => Only h h' [b] ∧ Grows 2 h.nx h' v (keptL m R).length (W.rvsC (keptL m R)) ∧ ∃ R' s', R'.map kl = compR m R ∧ Nb h s s' ∧ IxR N h' b R' s' := by
 refine (compactC0 h b m R s hx hz).cellOpen ?_
 rintro v h1 ⟨o1, g1, R1, s1, hR1, hx1, hv1, hbk⟩
 cases q : opnV s1 with
 | false => exact .inl ⟨o1, g1, R1, s1, hR1, fun c e => .inr (hbk c e), hx1, q⟩
 | true =>
  refine .inr ?_
  obtain ⟨⟨lt, c0, sl, gg, sr, zz, fl⟩, hrw, wr, ne⟩ := hx1
  have hlt0 := hx.ix.lt
  obtain ⟨n, hn⟩ : ∃ n, n = R1.length := ⟨_, rfl⟩
  obtain ⟨cs, hcs⟩ : ∃ cs, cs = prsC R1 := ⟨_, rfl⟩
  rw [← hn, ← hcs] at hrw
  cases hrw with
  | nil => cases q
  | exa bl n c ty cs h0 hl hc hr => cases q
  | opn bl n m ty cs h0 hl hm hr =>
   obtain ⟨hlt, t, hg1, ht⟩ := hr
   have hwr := wr
   unfold wrAt at wr
   unfold cellAt at c0
   split at wr
   ·rename_i mb tb kb hgb
    rw [hgb] at c0
    simp only at c0
    have hne : b ≠ bl := fun e => ne (by rw [e]; rfl)
    refine ⟨b, 0, bl, n, mb, m, tb, t, kb, ⟨2, ty⟩, false, hgb, c0, hg1, (show 0 < 2 by omega), hne, hm, fun c h1c h2c => ?_⟩
    have h2c : m ≤ c * 2 := h2c
    have hget := cellOpen_get (j := 0) (n := n) (c := c) hgb hg1 hne
    obtain ⟨h2, h2e⟩ : ∃ h2, h2 = AX.cellOpen h1 b 0 bl n c := ⟨_, rfl⟩
    rw [← h2e] at hget ⊢
    have hx2 : h2.nx = h1.nx:= by rw [h2e]; exact cellOpen_nx _ _ _ _ _ _
    have o2 : Only h1 h2 [b, bl] := ⟨by omega, fun c' hc' hn' => by rw [hget, if_neg (fun e => hn' (by simp [e])), if_neg (fun e => hn' (by simp [e]))]⟩
    have hrow : RowV h2 (.slice bl 0 n (.exact c)) n cs := .exa bl n c ty cs h0 hl h1c ⟨by omega, t, by rw [hget, if_neg (fun e => hne e.symm), if_pos rfl], ht⟩
    have hbl := hbk _ rfl
    refine ⟨⟨by have := o1.1; omega, fun c' hc' hn' => ?_⟩, ?_, R1, .slice bl 0 n (.exact c), hR1, fun c' e => .inr (hbk c' e), ⟨⟨⟨by omega, ?_, by rw [← hn, ← hcs]; exact hrow.slice, fun p hp => ?_, sr, zz, fun c hc => fl c (by omega)⟩, by rw [← hn, ← hcs]; exact hrow, ?_, ne⟩, rfl⟩⟩
    ·rw [hget, if_neg (fun e => hn' (by simp [e])), if_neg (by omega)]
     exact o1.2 c' hc' hn'
    ·refine g1.of_get (by omega) (fun c' e => ?_)
     have hb1 := g1.base e
     have hb2 := hv1 c' e
     rw [hget, if_neg (by omega), if_neg (fun e2 => hb2 (by rw [e2]; rfl))]
    ·unfold cellAt; rw [hget, if_pos rfl]
     show T.get (T.set _ _ _) 0 = _
     rw [T.get_set, if_pos rfl]
    ·exact ((gg p hp).keep o2 (fun c' hc' e => by
      rcases List.mem_cons.1 hc' with e1 | e1
      ·exact e.1 e1
      ·rw [List.mem_singleton] at e1; exact e.2 (by rw [e1]; rfl))).mono fun c' _ e => ⟨e.nb, e.ns, e.fl⟩
    ·unfold wrAt; rw [hget, if_pos rfl]
   ·cases wr
end
end Go.Proofs.YtlkngpckibidlaaGreat.X

namespace Go.Proofs.YtlkngpckibidlaaGreat.X
open Go Go.AX
noncomputable section
theorem IxR.off {N N' : Nat → Prop} {h h' : H} {b : Nat} {R : List Pr} {s : AV} {S : List Nat} (hx : IxR N h b R s) (ho : Only h h' S) (hS : ∀ c, c ∈ S → c ≠ b ∧ blkOf s ≠ some c ∧ (c < h.nx → ¬ N c)) (hN : ∀ c, c < h.nx → N c → N' c) (hf : ∀ c, h'.nx ≤ c → N' c) : IxR N' h' b R s := by
 have hb : b ∉ S := fun q => (hS b q).1 rfl
 have hs : ∀ c, blkOf s = some c → c ∉ S := fun c e q => (hS c q).2.1 e
 exact ⟨⟨⟨Nat.lt_of_lt_of_le hx.ix.lt ho.1, W.kcell hx.ix.c0 ho hx.ix.lt hb, hx.ix.sl.only ho hs,
  fun p hp => (((hx.ix.gg p hp).mono (q := fun c => offI N b s c ∧ c < h.nx) fun c hc e => ⟨e, hc⟩).keep ho (fun c q e => (hS c q).2.2 e.2 e.1.fl)).mono fun c _ e => ⟨e.1.nb, e.1.ns, hN c e.2 e.1.fl⟩, hx.ix.sr, hx.ix.zz, hf⟩,
  hx.rw.keep ho.1 (fun c q => ho.2 c (hx.ix.sl.blk c q) (hs c q)), W.kwr hx.wr ho hx.ix.lt hb, hx.ne⟩, hx.ex⟩
theorem RIx.off {p : Nat → Prop} {h h' : H} {b : Nat} {Q : List RR} {s : AV} {S : List Nat} (hx : RIx p h b Q s) (ho : Only h h' S) (hS : ∀ c, c ∈ S → c ≠ b ∧ blkOf s ≠ some c ∧ ¬ p c) : RIx p h' b Q s :=
 ⟨Nat.lt_of_lt_of_le hx.lt ho.1, W.kcell hx.c0 ho hx.lt (fun q => (hS b q).1 rfl), W.kwr hx.wr ho hx.lt (fun q => (hS b q).1 rfl), hx.sg.of_get ho.1 (fun c e => ho.2 c (hx.sg.base e).2 (fun q => (hS c q).2.1 e)), fun r hr => (hx.gg r hr).keep ho fun c q => (hS c q).2.2, hx.bs⟩
def px (bx br : Nat) (sx : AV) (c : Nat) : Prop := c ≠ br ∧ c ≠ bx ∧ blkOf sx ≠ some c
structure PyS (hb : Nat) (h : H) (bx br n : Nat) (R : List Pr) (Q : List RR) (sx sr : AV) : Prop where
 ix : IxR (fun c => c ≠ br) h bx R sx
 rx : RIx (px bx br sx) h br Q sr
 tw : Twin n R Q
 ne : bx ≠ br
 sb : ∀ c, blkOf sx = some c → hb ≤ c ∧ c ≠ br
 rb : ∀ c, blkOf sr = some c → hb ≤ c ∧ c ≠ bx ∧ blkOf sx ≠ some c
 lx : hb ≤ bx
 lr : hb ≤ br
structure PyM (hb : Nat) (h h1 : H) (bx br : Nat) (R1 : List Pr) (Q : List RR) (sx1 sr : AV) : Prop where
 ix : IxR (fun c => c ≠ br) h1 bx R1 sx1
 rx : RIx (px bx br sx1) h1 br Q sr
 sb : ∀ c, blkOf sx1 = some c → hb ≤ c ∧ c ≠ br
 rb : ∀ c, blkOf sr = some c → hb ≤ c ∧ c ≠ bx ∧ blkOf sx1 ≠ some c
 le : h.nx ≤ h1.nx
theorem PyS.idx {hb : Nat} {h h1 : H} {bx br n : Nat} {R R1 : List Pr} {Q : List RR} {sx sx1 sr : AV} (hs : PyS hb h bx br n R Q sx sr) (ho : Only h h1 (bx :: rowL sx)) (nb : Nb h sx sx1) (ix : IxR (fun c => c ≠ br) h1 bx R1 sx1) : PyM hb h h1 bx br R1 Q sx1 sr := by
 have hrow : ∀ c, c ∈ rowL sx ↔ blkOf sx = some c := fun c => by
  unfold rowL
  split
  ·rename_i c' e; rw [e, List.mem_singleton]; exact ⟨fun q => by rw [q], fun q => by cases q; rfl⟩
  ·rename_i e; rw [e]; exact ⟨fun q => (by cases q), fun q => (by cases q)⟩
 have hbl := hs.lx
 have hxl := hs.ix.ix.lt
 have hrl := hs.rx.lt
 have hmono : ∀ c, px bx br sx c → c < h.nx → px bx br sx c ∧ px bx br sx1 c := fun c h1 h2 => ⟨h1, h1.1, h1.2.1, fun e => by
  rcases nb c e with q | q
  ·exact h1.2.2 q
  ·omega⟩
 refine ⟨ix, ?_, fun c e => ?_, fun c e => ?_, ho.1⟩
 ·refine ((hs.rx.mono hmono).off ho fun c hc => ?_).mono fun c h1 _ => h1.2
  rcases List.mem_cons.1 hc with q | q
  ·subst q
   exact ⟨hs.ne, fun e => (hs.rb _ e).2.1 rfl, fun e => e.1.2.1 rfl⟩
  ·have q := (hrow c).1 q
   exact ⟨(hs.sb c q).2, fun e => (hs.rb _ e).2.2 q, fun e => e.1.2.2 q⟩
 ·rcases nb c e with q | q
  ·exact hs.sb c q
  ·exact ⟨by omega, by omega⟩
 ·have hc : c < h.nx := (hs.rx.sg.base e).2
  refine ⟨(hs.rb c e).1, (hs.rb c e).2.1, fun e2 => ?_⟩
  rcases nb c e2 with q | q
  ·exact (hs.rb c e).2.2 q
  ·omega
theorem PyM.doc {hb : Nat} {h h1 h2 : H} {bx br n : Nat} {R R1 : List Pr} {Q Q1 : List RR} {sx sx1 sr sr1 : AV} (hs : PyS hb h bx br n R Q sx sr) (hm : PyM hb h h1 bx br R1 Q sx1 sr) (ho : Only h1 h2 [br]) (rx : RIx (px bx br sx1) h2 br Q1 sr1) (nb : ∀ c, blkOf sr1 = some c → blkOf sr = some c ∨ h1.nx ≤ c) {m : Nat} (tw : Twin m R1 Q1) :
  PyS hb h2 bx br m R1 Q1 sx1 sr1 := by
 have hxl := hm.ix.ix.lt
 have hlx := hs.lx
 refine ⟨hm.ix.off ho (fun c hc => ?_) (fun c _ e => e) (fun c hc => ?_), rx, tw, hs.ne, hm.sb, fun c e => ?_, hs.lx, hs.lr⟩
 ·rw [List.mem_singleton] at hc
  subst hc
  exact ⟨fun e => hs.ne e.symm, fun e => (hm.sb _ e).2 rfl, fun _ e => e rfl⟩
 ·have := hm.rx.lt
  have := ho.1
  omega
 ·rcases nb c e with q | q
  ·exact hm.rb c q
  ·refine ⟨by omega, by omega, fun e2 => ?_⟩
   have := hm.ix.ix.sl.blk c e2
   omega
theorem PyM.p {hb : Nat} {h h1 : H} {bx br n : Nat} {R R1 : List Pr} {Q : List RR} {sx sx1 sr : AV} (hs : PyS hb h bx br n R Q sx sr) (hm : PyM hb h h1 bx br R1 Q sx1 sr) : (¬ px bx br sx1 br) ∧ ∀ c, h1.nx ≤ c → px bx br sx1 c := by
 have hxl := hm.ix.ix.lt
 have hrl := hm.rx.lt
 exact ⟨fun e => e.1 rfl, fun c hc => ⟨by omega, by omega, fun e => by have := hm.ix.ix.sl.blk c e; omega⟩⟩
theorem PyS.rest {hb : Nat} {h h1 h2 : H} {bx br n : Nat} {R : List Pr} {Q : List RR} {sx sr : AV} (hs : PyS hb h bx br n R Q sx sr) (o1 : Only h h1 (bx :: rowL sx)) (o2 : Only h1 h2 [br]) : h.nx ≤ h2.nx ∧ ∀ c, c < h.nx → c ≠ bx → c ≠ br → blkOf sx ≠ some c → h2.t.get c = h.t.get c := by
 refine ⟨Nat.le_trans o1.1 o2.1, fun c hc n1 n2 n3 => ?_⟩
 rw [o2.2 c (Nat.lt_of_lt_of_le hc o1.1) (by simp; exact n2), o1.2 c hc ?_]
 rw [List.mem_cons]
 rintro (e | e)
 ·exact n1 e
 ·unfold rowL at e
  split at e
  ·rename_i c' q
   rw [List.mem_singleton] at e
   subst e; exact n3 q
  ·cases e
end
end Go.Proofs.YtlkngpckibidlaaGreat.X

namespace Go.Proofs.YtlkngpckibidlaaGreat.X
open Go Go.AX
noncomputable section
set_option maxRecDepth 100000
theorem rO14ZLawA {p q r : Prop} (hq : q) (fs : r) (f : r → q → p:= by intro fs hq; (repeat' (first | ((with_reducible refine st1 ?_); (conv => whnf); (with_reducible refine ⟨?_⟩)) | ((with_reducible refine st_dp ord14_0 ?_ rfl rfl ?_); exact rfl; (conv => arg 4; whnf); (conv => arg 3; whnf)) | ((with_reducible refine st_dp ord14_1 ?_ rfl rfl ?_); exact rfl; (conv => arg 4; whnf); (conv => arg 3; whnf)) | ((with_reducible refine retW_intro rfl ?_); (conv => arg 2; whnf)) | ((with_reducible first | refine iB ?_ ?_ | refine gWt ?_ ?_ | refine gWf ?_ ?_ | refine gXt ?_ ?_ | refine gXf ?_ ?_) <;> intro hb <;> (try simp only [hb])) | ((with_reducible show drawP _ _ _ _ _ _ _ _ _); first | ((with_reducible apply kP_rd); exact rfl; exact rfl) | ((with_reducible apply kP_rg); exact rfl; exact rfl; exact rfl) | ((with_reducible apply kP_cv); exact rfl; exact rfl; kernel_rfl) | ((with_reducible apply kP_al); exact rfl; exact rfl; exact rfl) | ((with_reducible apply kP_fl); exact rfl; exact rfl; exact rfl) | ((with_reducible apply kP_ex); exact rfl; exact rfl; kernel_rfl; exact rfl) | ((with_reducible apply kP_eg); exact rfl; exact rfl; kernel_rfl; exact rfl) | ((with_reducible refine kP_nl ?_ ?_))) | ((with_reducible show eOk _ _ _ _ _ _); first | (exact eok_nil) | (refine ke_rd ?_ ?_ ?_; exact rfl) | (apply ke_rg; exact rfl; exact rfl) | (refine ke_cv ?_ ?_ ?_ ?_; exact rfl; kernel_rfl) | (apply ke_fl; exact rfl) | (apply ke_al; exact rfl; exact rfl)) | ((with_reducible refine freshIs_new ?_); kernel_rfl) | (simp only [B, xB, F, reduceLT, reduceLeDiff, reduceEqDiff, reduceAdd, reduceMul, reduceSub, ↓reduceIte, eq_self, fs]))); exact hq) : p := f fs hq
variable {N : Nat → Prop}
theorem Twin.szg {n : Nat} {R : List Pr} {Q : List RR} (h : Twin n R Q) (k : List Nat) : W.Sz n (getL k R) := (W.wf_sz (h.gl k).wf).le (by rw [(h.gl k).al]; exact (h.gl k).le)
theorem Twin.szp {n : Nat} {R : List Pr} {Q : List RR} (h : Twin n R Q) {p : Pr} (hp : p ∈ R) : W.Sz n p.L := (W.wf_sz (h.bo p hp).wf).le (h.bo p hp).le
theorem itX (k : List Nat) (A : List W.Ch) (m : Nat) : ∃ x : It, rItV k A m = itC x := by
 unfold rItV
 split
 ·exact ⟨⟨k, (W.atA A m).rev, (W.atA A m).made, (W.atA A m).nth⟩, rfl⟩
 ·exact ⟨⟨[], (0, 0), 0, 0⟩, rfl⟩
theorem row_cells {h : H} {b n : Nat} {cap : Cap} {cs : List AV} (hb : b < h.nx) (hc : ∀ j, j < cs.length → cellAt h b j = cs[j]?) : SliceAt h (.slice b 0 n cap) n cs :=
 .cell b 0 n cap cs hb fun i hi => by rw [Nat.zero_add]; exact hc i hi
structure SaI (h0 : H) (bx br : Nat) (key : List Nat) (m : Nat) (n : Nat) (ds : List Nat) (tm : T AV) (h : H) (j : Nat) : Prop where
 ds : ds = []
 nn : n = 8 - j
 jj : j ≤ 7
 t0 : tm.get 0 = some (.ptr bx 0)
 t1 : tm.get 1 = some (.ptr br 0)
 t2 : tm.get 2 = some (.str key)
 t3 : tm.get 3 = some (.int .u64 (.ofNat m))
 t9 : tm.get 9 = some (.int .u64 (.ofNat ((m - min m 3 + j) % W.M64)))
 oo : Only h0 h []
structure Stop14 (p : Prop) : Prop where
 go : p
theorem stop14 {ds : List Nat} {tm : T AV} {h : H} {K : KQ} (hw : Stop14 (codeW P 14 122 none (codeI (bodyC Tryz.f14) [1, 1]) ds tm h K)) : codeW P 14 122 none (codeI (bodyC Tryz.f14) [1, 1]) ds tm h K := hw.go
theorem sayTail {p : Nat → Prop} (h0 h : H) (bx br : Nat) (n : Nat) (R : List Pr) (Q : List RR) (sx sr : AV) (key : List Nat) (oo : Only h0 h []) (hx : IxR N h bx R sx) (hr : RIx p h br Q sr) (tw : Twin n R Q) (hn : n ≤ 100)
  (tm : T AV) (t0 : tm.get 0 = some (.ptr bx 0)) (t1 : tm.get 1 = some (.ptr br 0)) (t2 : tm.get 2 = some (.str key)) :
  codeW P 14 122 none (codeI (bodyC Tryz.f14) [1, 1]) [] tm h (retK P Tryz.f14 (W.Says h0 (.bool true))) := by
 have hlenQ : Q.length ≤ 100:= by rw [← tw.len]; exact Nat.le_trans tw.le hn
 have hzk : W.Sz 1000 (getL key R) := (tw.szg key).le (by omega)
 have hAz : (refL key Q).length ≤ 1000 := Nat.le_trans (tw.gl key).le (by omega)
 have hlen := hr.sl.len (P := P) u26
 have c0 := hr.c0
 have lt0 := hr.lt
 have hso := W.SliceAt.one hr.sl
 have e1 : decide (Q.length = Q.length) = true := decide_eq_true rfl
 refine rO14ZLawA ?_ (V t0<|V t1<|V t2<|V c0<|V hlen<|hso)
 refine ((lenC h bx R sx hx).call P).mono P ?_
 rintro _ h1 ⟨rfl, o1⟩
 rw [tw.len]
 have c1 := W.kcell c0 o1 lt0 (by simp)
 have hx1 := hx.keep o1
 have hr1 := hr.keep o1
 refine rO14ZLawA ?_ (V t0<|V t1<|V t2<|V c0<|V c1<|V hlen<|V hso<|e1)
 refine ((ofC h1 bx key R sx hx1).call P).mono P ?_
 rintro v2 h2 ⟨o2, hg2⟩
 have c2 := W.kcell c1 o2 hr1.lt (by simp)
 have hx2 := hx1.keep o2
 have hr2 := hr1.keep o2
 obtain ⟨y2, e', hyo, hyc⟩ := hg2.val
 subst e'
 refine rO14ZLawA ?_ (V t0<|V t1<|V t2<|V c0<|V c1<|V c2<|V hlen<|V hso<|V e1<|V hyo<|hyc)
 refine ((W.sinceC h2 _ _ 0 hg2.at hzk).call P).mono P ?_
 rintro v3 h3 ⟨o3, g3⟩
 rw [(tw.gl key).al] at g3
 have c3 := W.kcell c2 o3 hr2.lt (by simp)
 have hr3 := hr2.keep o3
 have go3 := g3.one
 refine rO14ZLawA ?_ (V t0<|V t1<|V t2<|V c0<|V c1<|V c2<|V c3<|V hlen<|V hso<|V e1<|V hyo<|V hyc<|go3)
 refine ((rOfC h3 br key Q sr hr3 (by omega)).call P).mono P ?_
 rintro v4 h4 ⟨o4, hf4⟩
 obtain ⟨y4, e', hzo, hzc⟩ := hf4.1.val
 subst e'
 have c4 := W.kcell c3 o4 hr3.lt (by simp)
 refine rO14ZLawA ?_ (V t0<|V t1<|V t2<|V c0<|V c1<|V c2<|V c3<|V c4<|V hlen<|V hso<|V e1<|V hyo<|V hyc<|V go3<|V hzo<|hzc)
 refine ((W.rSinceC h4 _ _ 0 hf4.1 hAz).call P).mono P ?_
 rintro v5 h5 ⟨o5, g5⟩
 have go5 := g5.one
 have c5 := W.kcell c4 o5 (by have := hr3.lt; have := o4.1; omega) (by simp)
 refine rO14ZLawA ?_ (V t0<|V t1<|V t2<|V c0<|V c1<|V c2<|V c3<|V c4<|V c5<|V hlen<|V hso<|V e1<|V hyo<|V hyc<|V go3<|V go5<|V hzo<|hzc)
 refine ((W.revsC h5 v3 v5 _ _ ((g3.slice.only o4 (fun _ _ => by simp)).only o5 (fun _ _ => by simp)) g5.slice (Nat.le_trans (W.since_len _ _) (by omega))).call P).mono P ?_
 rintro _ h6 ⟨rfl, o6⟩
 rw [decide_eq_true rfl]
 have c6 := W.kcell c5 o6 (by have := hr3.lt; have := o4.1; have := o5.1; omega) (by simp)
 refine rO14ZLawA ?_ (V t0<|V t1<|V t2<|V c0<|V c1<|V c2<|V c3<|V c4<|V c5<|V c6<|V hlen<|V hso<|V e1<|V hyo<|V hyc<|V go3<|V go5<|V hzo<|hzc)
 exact ⟨rfl, (((((oo.t o1).t o2).t o3).t o4).t o5).t o6⟩
set_option maxHeartbeats 4000000 in
theorem sayC {p : Nat → Prop} (h0 : H) (bx br : Nat) (n : Nat) (R : List Pr) (Q : List RR) (sx sr : AV) (key : List Nat) (m : Nat) (hx0 : IxR N h0 bx R sx) (hr0 : RIx p h0 br Q sr) (tw : Twin n R Q) (hn : n ≤ 100) (hk : key.length ≤ 100) (hm : m < W.M64) :
  PushC P (.enter 14 [.ptr bx 0, .ptr br 0, .str key, W.n64 m] h0) (W.Says h0 (.bool true)) := by
 have b0 : bytesOf { data := #[] } = [] := rfl
 have b1 : bytesOf { data := #[0] } = [0] := rfl
 have b2 : bytesOf { data := #[99] } = [99] := rfl
 have hlenR : R.length ≤ 100 := Nat.le_trans tw.le hn
 have hlenQ : Q.length ≤ 100:= by rw [← tw.len]; exact hlenR
 have hz : ∀ p, p ∈ R → W.Sz 1000 p.L := fun p hp => (tw.szp hp).le (by omega)
 have hzk : W.Sz 1000 (getL key R) := (tw.szg key).le (by omega)
 have hAz : (refL key Q).length ≤ 1000 := Nat.le_trans (tw.gl key).le (by omega)
 have hu : ∀ r, r ∈ Q → refL r.key Q = r.A := fun r hr => (tw.ref hr).1
 have hqz : ∀ r, r ∈ Q → r.A.length ≤ 1000 := fun r hr => Nat.le_trans (tw.ref hr).2.2 (by omega)
 have hM : W.M64 = 18446744073709551616 := rfl
 have mn3 : (if Int.ofNat 3 < Int.ofNat m then Int.ofNat 3 else Int.ofNat m) = Int.ofNat (min m 3) := by
  by_cases q : 3 < m
  ·have q' : Int.ofNat 3 < Int.ofNat m := Int.ofNat_lt.2 q
   rw [if_pos q', Nat.min_eq_right (by omega)]
  ·have q' : ¬ Int.ofNat 3 < Int.ofNat m := fun h => q (Int.ofNat_lt.1 h)
   rw [if_neg q', Nat.min_eq_left (by omega)]
 have sb3 : wrapF .u64 (Int.ofNat m - Int.ofNat (min m 3)) = Int.ofNat (m - min m 3) := u64_sub (Nat.min_le_left _ _) (by omega)
 have ad3 : wrapF .u64 (Int.ofNat m + Int.ofNat 3) = Int.ofNat ((m + 3) % W.M64) := W.u64_mod m 3
 have ib : ∀ (k e : List Nat) (m : Nat), (rItsL m k e Q).length ≤ 100000 := fun k e m => Nat.le_trans (rIts_len m k e Q) (by omega)
 unfold W.n64
 refine pushC_of_codeW (fn := Tryz.f14) (c := bodyC Tryz.f14) Tryz.func14 rfl ?_
 show codeW P 14 122 none _ _ _ _ _
 refine codeW_root ?_
 refine rN ?_ (V mn3<|sb3)
 refine st_loop (fun n ds tm h => ∃ j, SaI h0 bx br key m n ds tm h j) 8 rfl ⟨0, rfl, rfl, Nat.zero_le _, by exact sT, by exact sT, by exact sT, by exact sT, by rw [Nat.add_zero, Nat.mod_eq_of_lt (show m - min m 3 < W.M64 by omega)]; exact sT, Only.refl _ _⟩ (fun n ds tm h hI => ?_)
 obtain ⟨j, rfl, rfl, jj, t0, t1, t2, t3, t9, oo⟩ := hI
 have hx := hx0.keep oo
 have hr := hr0.keep oo
 obtain ⟨mj, hmj⟩ : ∃ mj, mj = (m - min m 3 + j) % W.M64 := ⟨_, rfl⟩
 rw [← hmj] at t9
 have adj : wrapF .u64 (Int.ofNat mj + Int.ofNat 1) = Int.ofNat ((m - min m 3 + (j + 1)) % W.M64) := by
  rw [W.u64_mod, hmj]
  have : ((m - min m 3 + j) % 18446744073709551616 + 1) % 18446744073709551616 = (m - min m 3 + (j + 1)) % 18446744073709551616:= by omega
  exact congrArg Int.ofNat this
 by_cases c1 : mj ≤ (m + 3) % W.M64
 ·have d1 : decide (mj ≤ (m + 3) % W.M64) = true := decide_eq_true c1
  by_cases c2 : m - min m 3 ≤ mj
  ·have d2 : decide (m - min m 3 ≤ mj) = true := decide_eq_true c2
   have j6 : j + 1 ≤ 7 := by
    have c1' : mj ≤ (m + 3) % 18446744073709551616 := c1
    have hmj' : mj = (m - min m 3 + j) % 18446744073709551616 := hmj
    have hm' : m < 18446744073709551616 := hm
    clear mn3 sb3 ad3 adj
    omega
   refine rN ?_ (V t0<|V t1<|V t2<|V t3<|V t9<|V b0<|V b1<|V b2<|V mn3<|V sb3<|V ad3<|V d1<|d2)
   refine ((rangeC h bx [] [0] mj R sx hx hz (by first | omega | simp)).call P).mono P ?_
   rintro va1 ha1 ⟨oa1, ga1⟩
   rw [tw.range] at ga1
   have hx := hx.keep oa1
   have hr := hr.keep oa1
   have goa1 := ga1.one
   refine rN ?_ (V t0<|V t1<|V t2<|V t3<|V t9<|V b0<|V b1<|V b2<|V mn3<|V sb3<|V ad3<|V d1<|V d2<|goa1)
   refine ((rItemsC ha1 va1 _ ga1.slice (ib _ _ _)).call P).mono P ?_
   rintro va2 ha2 ⟨oa2, ga2⟩
   have hx := hx.keep oa2
   have hr := hr.keep oa2
   have goa2 := ga2.one
   refine rN ?_ (V t0<|V t1<|V t2<|V t3<|V t9<|V b0<|V b1<|V b2<|V mn3<|V sb3<|V ad3<|V d1<|V d2<|goa2)
   refine ((rRangeC ha2 br mj [] [0] Q sr hr (by omega) hu hqz).call P).mono P ?_
   rintro va3 ha3 ⟨oa3, ga3⟩
   have hx := hx.keep oa3
   have hr := hr.keep oa3
   have goa3 := ga3.one
   refine rN ?_ (V t0<|V t1<|V t2<|V t3<|V t9<|V b0<|V b1<|V b2<|V mn3<|V sb3<|V ad3<|V d1<|V d2<|V goa2<|goa3)
   refine ((rSameC ha3 va2 va3 _ (ga2.slice.only oa3 (fun _ _ => by simp)) ga3.slice (ib _ _ _)).call P).mono P ?_
   rintro _ ha4 ⟨rfl, oa4⟩
   have hx := hx.keep oa4
   have hr := hr.keep oa4
   have oo := (((oo.t oa1).t oa2).t oa3).t oa4
   refine rN ?_ (V t0<|V t1<|V t2<|V t3<|V t9<|V b0<|V b1<|V b2<|V mn3<|V sb3<|V ad3<|V d1<|V d2<|@Bool.not_true)
   refine ((rangeC ha4 bx key [] mj R sx hx hz (by first | omega | simp)).call P).mono P ?_
   rintro vb1 hb1 ⟨ob1, gb1⟩
   rw [tw.range] at gb1
   have hx := hx.keep ob1
   have hr := hr.keep ob1
   have gob1 := gb1.one
   refine rN ?_ (V t0<|V t1<|V t2<|V t3<|V t9<|V b0<|V b1<|V b2<|V mn3<|V sb3<|V ad3<|V d1<|V d2<|gob1)
   refine ((rItemsC hb1 vb1 _ gb1.slice (ib _ _ _)).call P).mono P ?_
   rintro vb2 hb2 ⟨ob2, gb2⟩
   have hx := hx.keep ob2
   have hr := hr.keep ob2
   have gob2 := gb2.one
   refine rN ?_ (V t0<|V t1<|V t2<|V t3<|V t9<|V b0<|V b1<|V b2<|V mn3<|V sb3<|V ad3<|V d1<|V d2<|gob2)
   refine ((rRangeC hb2 br mj key [] Q sr hr (by omega) hu hqz).call P).mono P ?_
   rintro vb3 hb3 ⟨ob3, gb3⟩
   have hx := hx.keep ob3
   have hr := hr.keep ob3
   have gob3 := gb3.one
   refine rN ?_ (V t0<|V t1<|V t2<|V t3<|V t9<|V b0<|V b1<|V b2<|V mn3<|V sb3<|V ad3<|V d1<|V d2<|V gob2<|gob3)
   refine ((rSameC hb3 vb2 vb3 _ (gb2.slice.only ob3 (fun _ _ => by simp)) gb3.slice (ib _ _ _)).call P).mono P ?_
   rintro _ hb4 ⟨rfl, ob4⟩
   have hx := hx.keep ob4
   have hr := hr.keep ob4
   have oo := (((oo.t ob1).t ob2).t ob3).t ob4
   refine rN ?_ (V t0<|V t1<|V t2<|V t3<|V t9<|V b0<|V b1<|V b2<|V mn3<|V sb3<|V ad3<|V d1<|V d2<|@Bool.not_true)
   refine ((rangeC hb4 bx key [99] mj R sx hx hz (by first | omega | simp)).call P).mono P ?_
   rintro vc1 hc1 ⟨oc1, gc1⟩
   rw [tw.range] at gc1
   have hx := hx.keep oc1
   have hr := hr.keep oc1
   have goc1 := gc1.one
   refine rN ?_ (V t0<|V t1<|V t2<|V t3<|V t9<|V b0<|V b1<|V b2<|V mn3<|V sb3<|V ad3<|V d1<|V d2<|goc1)
   refine ((rItemsC hc1 vc1 _ gc1.slice (ib _ _ _)).call P).mono P ?_
   rintro vc2 hc2 ⟨oc2, gc2⟩
   have hx := hx.keep oc2
   have hr := hr.keep oc2
   have goc2 := gc2.one
   refine rN ?_ (V t0<|V t1<|V t2<|V t3<|V t9<|V b0<|V b1<|V b2<|V mn3<|V sb3<|V ad3<|V d1<|V d2<|goc2)
   refine ((rRangeC hc2 br mj key [99] Q sr hr (by omega) hu hqz).call P).mono P ?_
   rintro vc3 hc3 ⟨oc3, gc3⟩
   have hx := hx.keep oc3
   have hr := hr.keep oc3
   have goc3 := gc3.one
   refine rN ?_ (V t0<|V t1<|V t2<|V t3<|V t9<|V b0<|V b1<|V b2<|V mn3<|V sb3<|V ad3<|V d1<|V d2<|V goc2<|goc3)
   refine ((rSameC hc3 vc2 vc3 _ (gc2.slice.only oc3 (fun _ _ => by simp)) gc3.slice (ib _ _ _)).call P).mono P ?_
   rintro _ hc4 ⟨rfl, oc4⟩
   have hx := hx.keep oc4
   have hr := hr.keep oc4
   have oo := (((oo.t oc1).t oc2).t oc3).t oc4
   refine rN ?_ (V t0<|V t1<|V t2<|V t3<|V t9<|V b0<|V b1<|V b2<|V mn3<|V sb3<|V ad3<|V d1<|V d2<|@Bool.not_true)
   refine ((keptC hc4 bx mj R sx hx hz).call P).mono P ?_
   rintro vd1 hd1 ⟨od1, gd1⟩
   rw [tw.kept] at gd1
   have hx := hx.keep od1
   have hr := hr.keep od1
   have god1 := gd1.one
   refine rN ?_ (V t0<|V t1<|V t2<|V t3<|V t9<|V b0<|V b1<|V b2<|V mn3<|V sb3<|V ad3<|V d1<|V d2<|god1)
   refine ((rKeptC hd1 br mj Q sr hr (by omega) hu hqz).call P).mono P ?_
   rintro vd2 hd2 ⟨od2, gd2⟩
   have hx := hx.keep od2
   have hr := hr.keep od2
   have god2 := gd2.one
   refine rN ?_ (V t0<|V t1<|V t2<|V t3<|V t9<|V b0<|V b1<|V b2<|V mn3<|V sb3<|V ad3<|V d1<|V d2<|V god1<|god2)
   refine ((W.revsC hd2 vd1 vd2 _ _ (gd1.slice.only od2 (fun _ _ => by simp)) gd2.slice (Nat.le_trans (rKept_len mj Q) (by omega))).call P).mono P ?_
   rintro _ hd3 ⟨rfl, od3⟩
   rw [decide_eq_true rfl]
   have hx := hx.keep od3
   have hr := hr.keep od3
   have oo := ((oo.t od1).t od2).t od3
   refine rN ?_ (V t0<|V t1<|V t2<|V t3<|V t9<|V b0<|V b1<|V b2<|V mn3<|V sb3<|V ad3<|V d1<|V d2<|@Bool.not_true)
   refine ((ixGetC hd3 bx key R sx mj hx hzk).call P).mono P ?_
   rintro _ he1 ⟨rfl, oe1⟩
   rw [(tw.item key mj).1, (tw.item key mj).2]
   obtain ⟨x, hxe⟩ := itX key (refL key Q) mj
   obtain ⟨tb, htb⟩ : ∃ tb, tb = W.atT (refL key Q) mj := ⟨_, rfl⟩
   rw [hxe, ← htb]
   obtain ⟨he2, he2e⟩ : ∃ he2, he2 = (he1.newCells 87 [.str [], .int .u64 (.ofNat 0), .int .u64 (.ofNat 0), .int .u64 (.ofNat 0), .int .u64 (.ofNat 0)]).sts he1.nx 0 (itC x) := ⟨_, rfl⟩
   have oe2 : Only he1 he2 []:= by rw [he2e]; exact ((Only.refl _ _).new _ _).sts (.inr (Nat.le_refl _))
   have xe2 : he2.nx = he1.nx + 1:= by rw [he2e, nx_sts, nx_new]
   have y0 : cellAt he2 he1.nx 0 = some (.str x.key):= by rw [he2e, cellAt_sts (by rw [wrAt_new, if_pos rfl]), if_pos ⟨rfl, Nat.zero_le _, by simp [itC]⟩]; rfl
   have y1 : cellAt he2 he1.nx 1 = some (.int .u64 (.ofNat x.mod.1)):= by rw [he2e, cellAt_sts (by rw [wrAt_new, if_pos rfl]), if_pos ⟨rfl, Nat.zero_le _, by simp [itC]⟩]; rfl
   have y2 : cellAt he2 he1.nx 2 = some (.int .u64 (.ofNat x.mod.2)):= by rw [he2e, cellAt_sts (by rw [wrAt_new, if_pos rfl]), if_pos ⟨rfl, Nat.zero_le _, by simp [itC]⟩]; rfl
   have y3 : cellAt he2 he1.nx 3 = some (.int .u64 (.ofNat x.made)):= by rw [he2e, cellAt_sts (by rw [wrAt_new, if_pos rfl]), if_pos ⟨rfl, Nat.zero_le _, by simp [itC]⟩]; rfl
   have y4 : cellAt he2 he1.nx 4 = some (.int .u64 (.ofNat x.nth)):= by rw [he2e, cellAt_sts (by rw [wrAt_new, if_pos rfl]), if_pos ⟨rfl, Nat.zero_le _, by simp [itC]⟩]; rfl
   have hx := hx.keep oe1
   have hr := hr.keep oe1
   have hx := hx.keep oe2
   have hr := hr.keep oe2
   unfold itC at he2e ⊢
   refine rN ?_ (V t0<|V t1<|V t2<|V t3<|V t9<|V b0<|V b1<|V b2<|V mn3<|V sb3<|V ad3<|V d1<|V d2<|he2e.symm)
   refine ((rGetC he2 br key mj Q sr hr (by omega) hAz).call P).mono P ?_
   rintro _ hf1 ⟨rfl, of1⟩
   rw [hxe, ← htb]
   obtain ⟨hf2, hf2e⟩ : ∃ hf2, hf2 = (hf1.newCells 90 [.str [], .int .u64 (.ofNat 0), .int .u64 (.ofNat 0), .int .u64 (.ofNat 0), .int .u64 (.ofNat 0)]).sts hf1.nx 0 (itC x) := ⟨_, rfl⟩
   have of2 : Only hf1 hf2 []:= by rw [hf2e]; exact ((Only.refl _ _).new _ _).sts (.inr (Nat.le_refl _))
   have xf1 := of1.1
   have xf2 : hf2.nx = hf1.nx + 1:= by rw [hf2e, nx_sts, nx_new]
   have z0 : cellAt hf2 hf1.nx 0 = some (.str x.key):= by rw [hf2e, cellAt_sts (by rw [wrAt_new, if_pos rfl]), if_pos ⟨rfl, Nat.zero_le _, by simp [itC]⟩]; rfl
   have z1 : cellAt hf2 hf1.nx 1 = some (.int .u64 (.ofNat x.mod.1)):= by rw [hf2e, cellAt_sts (by rw [wrAt_new, if_pos rfl]), if_pos ⟨rfl, Nat.zero_le _, by simp [itC]⟩]; rfl
   have z2 : cellAt hf2 hf1.nx 2 = some (.int .u64 (.ofNat x.mod.2)):= by rw [hf2e, cellAt_sts (by rw [wrAt_new, if_pos rfl]), if_pos ⟨rfl, Nat.zero_le _, by simp [itC]⟩]; rfl
   have z3 : cellAt hf2 hf1.nx 3 = some (.int .u64 (.ofNat x.made)):= by rw [hf2e, cellAt_sts (by rw [wrAt_new, if_pos rfl]), if_pos ⟨rfl, Nat.zero_le _, by simp [itC]⟩]; rfl
   have z4 : cellAt hf2 hf1.nx 4 = some (.int .u64 (.ofNat x.nth)):= by rw [hf2e, cellAt_sts (by rw [wrAt_new, if_pos rfl]), if_pos ⟨rfl, Nat.zero_le _, by simp [itC]⟩]; rfl
   replace y0 := W.kcell (W.kcell y0 of1 (by omega) (by simp)) of2 (by omega) (by simp)
   replace y1 := W.kcell (W.kcell y1 of1 (by omega) (by simp)) of2 (by omega) (by simp)
   replace y2 := W.kcell (W.kcell y2 of1 (by omega) (by simp)) of2 (by omega) (by simp)
   replace y3 := W.kcell (W.kcell y3 of1 (by omega) (by simp)) of2 (by omega) (by simp)
   replace y4 := W.kcell (W.kcell y4 of1 (by omega) (by simp)) of2 (by omega) (by simp)
   have hx := hx.keep of1
   have hr := hr.keep of1
   have hx := hx.keep of2
   have hr := hr.keep of2
   have tt : (tb == tb) = true:= by cases tb <;> rfl
   have tn : (tb != tb) = false:= by cases tb <;> rfl
   obtain ⟨hg1, hg1e⟩ : ∃ hg1, hg1 = hf2.newCells 87 (itC x) := ⟨_, rfl⟩
   have og1 : Only hf2 hg1 []:= by rw [hg1e]; exact (Only.refl _ _).new _ _
   have xg1 : hg1.nx = hf2.nx + 1:= by rw [hg1e]; rfl
   obtain ⟨hg2, hg2e⟩ : ∃ hg2, hg2 = hg1.newCells 90 (itC x) := ⟨_, rfl⟩
   have og2 : Only hg1 hg2 []:= by rw [hg2e]; exact (Only.refl _ _).new _ _
   have xg2 : hg2.nx = hg1.nx + 1:= by rw [hg2e]; rfl
   have hc1 : ∀ j, j < (itC x).length → cellAt hg1 hf2.nx j = (itC x)[j]? := fun j hj => by rw [hg1e, cellAt_new, if_pos rfl]
   have sg1 : SliceAt hg2 (.slice hf2.nx 0 1 (.exact 1)) [x].length (itsC [x]) := by
    have := (row_cells (h := hg1) (b := hf2.nx) (n := 1) (cap := .exact 1) (by omega) hc1).only og2 (fun _ _ => by simp)
    unfold itsC
    rw [List.flatMap_cons, List.flatMap_nil, List.append_nil]
    exact this
   have sg2 : SliceAt hg2 (.slice hg1.nx 0 1 (.exact 1)) [x].length (itsC [x]) := by
    unfold itsC
    rw [List.flatMap_cons, List.flatMap_nil, List.append_nil]
    exact row_cells (by omega) fun j hj => by rw [hg2e, cellAt_new, if_pos rfl]
   have F2 : freshIs 90 (itC x) (hg2.t.get hg1.nx) = true:= by rw [hg2e]; exact freshIs_new (T.same_nr _ rfl)
   have F1 : freshIs 87 (itC x) (hg2.t.get hf2.nx) = true:= by rw [og2.2 _ (by omega) (by simp), hg1e]; exact freshIs_new (T.same_nr _ rfl)
   have hg1e' := hg1e
   have hg2e' := hg2e
   have zg0 := W.kcell (W.kcell z0 og1 (by omega) (by simp)) og2 (by omega) (by simp)
   have yg0 := W.kcell (W.kcell y0 og1 (by omega) (by simp)) og2 (by omega) (by simp)
   have zg1 := W.kcell (W.kcell z1 og1 (by omega) (by simp)) og2 (by omega) (by simp)
   have yg1 := W.kcell (W.kcell y1 og1 (by omega) (by simp)) og2 (by omega) (by simp)
   have zg2 := W.kcell (W.kcell z2 og1 (by omega) (by simp)) og2 (by omega) (by simp)
   have yg2 := W.kcell (W.kcell y2 og1 (by omega) (by simp)) og2 (by omega) (by simp)
   have zg3 := W.kcell (W.kcell z3 og1 (by omega) (by simp)) og2 (by omega) (by simp)
   have yg3 := W.kcell (W.kcell y3 og1 (by omega) (by simp)) og2 (by omega) (by simp)
   have zg4 := W.kcell (W.kcell z4 og1 (by omega) (by simp)) og2 (by omega) (by simp)
   have yg4 := W.kcell (W.kcell y4 og1 (by omega) (by simp)) og2 (by omega) (by simp)
   unfold itC at hf2e hg1e' hg2e' F1 F2 ⊢
   refine rO14ZLawA ?_ (V t0<|V t1<|V t2<|V t3<|V t9<|V b0<|V b1<|V b2<|V mn3<|V sb3<|V ad3<|V d1<|V d2<|V hf2e.symm<|V y0<|V z0<|V yg0<|V zg0<|V y1<|V z1<|V yg1<|V zg1<|V y2<|V z2<|V yg2<|V zg2<|V y3<|V z3<|V yg3<|V zg3<|V y4<|V z4<|V yg4<|V zg4<|V tt<|V tn<|V hg1e'.symm<|V hg2e'.symm<|V F1<|V F2<|V @Bool.not_true<|@Bool.not_false)
   refine ((rItemsC hg2 _ [x] sg1 (by simp)).call P).mono P ?_
   rintro vh1 hh1 ⟨oh1, gh1⟩
   have goh1 := gh1.one
   have F3 := F2
   rw [← oh1.2 _ (by omega) (by simp)] at F3
   have zh0 := W.kcell zg0 oh1 (by omega) (by simp)
   have yh0 := W.kcell yg0 oh1 (by omega) (by simp)
   have zh1 := W.kcell zg1 oh1 (by omega) (by simp)
   have yh1 := W.kcell yg1 oh1 (by omega) (by simp)
   have zh2 := W.kcell zg2 oh1 (by omega) (by simp)
   have yh2 := W.kcell yg2 oh1 (by omega) (by simp)
   have zh3 := W.kcell zg3 oh1 (by omega) (by simp)
   have yh3 := W.kcell yg3 oh1 (by omega) (by simp)
   have zh4 := W.kcell zg4 oh1 (by omega) (by simp)
   have yh4 := W.kcell yg4 oh1 (by omega) (by simp)
   refine rO14ZLawA ?_ (V t0<|V t1<|V t2<|V t3<|V t9<|V b0<|V b1<|V b2<|V mn3<|V sb3<|V ad3<|V d1<|V d2<|V yh0<|V zh0<|V yh1<|V zh1<|V yh2<|V zh2<|V yh3<|V zh3<|V yh4<|V zh4<|V tt<|V tn<|V F3<|V goh1<|V @Bool.not_true<|@Bool.not_false)
   refine ((rSameC hh1 _ _ [x] gh1.slice (sg2.only oh1 (fun _ _ => by simp)) (by simp)).call P).mono P ?_
   rintro _ hh2 ⟨rfl, oh2⟩
   refine rO14ZLawA ?_ (V t0<|V t1<|V t2<|V t3<|V t9<|V b0<|V b1<|V b2<|V mn3<|V sb3<|V ad3<|V d1<|V d2<|V tt<|V tn<|V adj<|V @Bool.not_true<|@Bool.not_false)
   have oo := ((((((((oo.t oe1).t oe2).t of1).t of2).t og1).t og2).t oh1).t oh2)
   exact ⟨8 - (j + 1), by omega, j + 1, rfl, rfl, j6, by exact sT, by exact sT, by exact sT, by exact sT, by exact sT, oo⟩
  ·have d2 : decide (m - min m 3 ≤ mj) = false := decide_eq_false c2
   repeat' (first | (with_reducible refine stop14 ?_) | ((with_reducible refine st1 ?_); (conv => whnf); (with_reducible refine ⟨?_⟩)) | ((with_reducible refine retW_intro rfl ?_); (conv => arg 2; whnf)) | ((with_reducible first | refine iB ?_ ?_ | refine gWt ?_ ?_ | refine gWf ?_ ?_) <;> intro hb <;> (try simp only [hb])) | (simp only [B, xB, F, reduceLT, reduceLeDiff, reduceEqDiff, reduceAdd, reduceMul, reduceSub, ↓reduceIte, eq_self, t0, t1, t2, t3, t9, b0, b1, b2, mn3, sb3, ad3, d1, d2]))
   exact ⟨sayTail h0 h bx br n R Q sx sr key oo hx hr tw hn _ (by exact sT) (by exact sT) (by exact sT)⟩
 ·have d1 : decide (mj ≤ (m + 3) % W.M64) = false := decide_eq_false c1
  repeat' (first | (with_reducible refine stop14 ?_) | ((with_reducible refine st1 ?_); (conv => whnf); (with_reducible refine ⟨?_⟩)) | ((with_reducible refine retW_intro rfl ?_); (conv => arg 2; whnf)) | ((with_reducible first | refine iB ?_ ?_ | refine gWt ?_ ?_ | refine gWf ?_ ?_) <;> intro hb <;> (try simp only [hb])) | (simp only [B, xB, F, reduceLT, reduceLeDiff, reduceEqDiff, reduceAdd, reduceMul, reduceSub, ↓reduceIte, eq_self, t0, t1, t2, t3, t9, b0, b1, b2, mn3, sb3, ad3, d1]))
  exact ⟨sayTail h0 h bx br n R Q sx sr key oo hx hr tw hn _ (by exact sT) (by exact sT) (by exact sT)⟩
end
end Go.Proofs.YtlkngpckibidlaaGreat.X

namespace Go.Proofs.YtlkngpckibidlaaGreat.X
open Go Go.AX
noncomputable section
def Pair (hb : Nat) (h : H) (bx br n : Nat) (sx : AV) (f g : FuncId) (xa : List AV) : Prop :=
 ∃ e, PushC P (.enter f (.ptr bx 0 :: xa) h) fun v h1 => v = W.errV e ∧ Only h h1 (bx :: rowL sx) ∧ PushC P (.enter g (.ptr br 0 :: xa) h1) fun v h2 => v = W.errV e ∧ Only h1 h2 [br] ∧ ∃ R Q sx sr, PyS hb h2 bx br n R Q sx sr
variable {hb : Nat} {h : H} {bx br n : Nat} {R : List Pr} {Q : List RR} {sx sr : AV}
theorem PyS.keep {h' : H} (hs : PyS hb h bx br n R Q sx sr) (o : Only h h' []) : PyS hb h' bx br n R Q sx sr := ⟨hs.ix.keep o, hs.rx.keep o, hs.tw, hs.ne, hs.sb, hs.rb, hs.lx, hs.lr⟩
theorem PyS.up (hs : PyS hb h bx br n R Q sx sr) : PyS hb h bx br (n + 1) R Q sx sr := ⟨hs.ix, hs.rx, hs.tw.up, hs.ne, hs.sb, hs.rb, hs.lx, hs.lr⟩
theorem pairBad (hs : PyS hb h bx br n R Q sx sr) {f g : FuncId} {xa : List AV} (h1 : ∀ h, PushC P (.enter f (.ptr bx 0 :: xa) h) (W.Says h (W.errV 2))) (h2 : ∀ h, PushC P (.enter g (.ptr br 0 :: xa) h) (W.Says h (W.errV 2))) : Pair hb h bx br (n + 1) sx f g xa := by
 refine ⟨2, (h1 h).mono P ?_⟩
 rintro v h3 ⟨rfl, o3⟩
 refine ⟨rfl, Only.wide o3, (h2 h3).mono P ?_⟩
 rintro v h4 ⟨rfl, o4⟩
 exact ⟨rfl, Only.wide o4, R, Q, sx, sr, ((hs.keep o3).keep o4).up⟩
theorem bad_key {k : List Nat} (h : mayB k = false) : ¬ keyOk k := fun e => by rw [(mayB_iff k).2 e] at h; cases h
theorem PyS.zz (hs : PyS hb h bx br n R Q sx sr) (hn : n ≤ 100) : R.length < 100000 ∧ Q.length ≤ 100000 := by
 have := hs.tw.le
 have := hs.tw.len
 omega
theorem PyS.sz (hs : PyS hb h bx br n R Q sx sr) (hn : n ≤ 100) (k : List Nat) : W.Sz 900 (getL k R) ∧ (refL k Q).length ≤ 900 :=
 ⟨(hs.tw.szg k).le (by omega), Nat.le_trans (hs.tw.gl k).le (by omega)⟩
theorem pairPut (hs : PyS hb h bx br n R Q sx sr) (hn : n ≤ 100) (k : List Nat) (r : W.Rv) (hr : r.1 < W.M64) : Pair hb h bx br (n + 1) sx 5 6 [.str k, W.rvA r] := by
 cases hm : mayB k with
 | false => exact pairBad hs (fun h => IxPutBad h bx k r (bad_key hm)) (fun h => rIxPutBad h br k r hm)
 | true =>
  obtain ⟨hz1, hz2⟩ := hs.zz hn
  obtain ⟨hs1, hs2⟩ := hs.sz hn k
  refine ⟨W.putE (getL k R) r, (IxPutC h bx k R sx r hs.ix hz1 ((mayB_iff k).1 hm) hs1).mono P ?_⟩
  rintro v h1 ⟨rfl, g, sx1, o1, nb, ix⟩
  have hm1 := hs.idx o1 nb ix
  obtain ⟨p1, p2⟩ := hm1.p hs
  refine ⟨rfl, o1, (rIxPutC h1 br k Q sr r hm1.rx hz2 p1 p2 hs2 hr hm).mono P ?_⟩
  rintro v h2 ⟨rfl, o2, g2, sr1, rx, nb2⟩
  obtain ⟨e1, tw⟩ := hs.tw.put k r g g2
  exact ⟨by rw [e1], o2, _, _, sx1, sr1, PyM.doc hs hm1 o2 rx nb2 tw⟩
theorem pairTomb (hs : PyS hb h bx br n R Q sx sr) (hn : n ≤ 100) (k : List Nat) (r : W.Rv) : Pair hb h bx br (n + 1) sx 7 8 [.str k, W.rvA r] := by
 cases hm : mayB k with
 | false => exact pairBad hs (fun h => IxTombBad h bx k r (bad_key hm)) (fun h => rIxTombBad h br k r hm)
 | true =>
  obtain ⟨hz1, hz2⟩ := hs.zz hn
  obtain ⟨hs1, hs2⟩ := hs.sz hn k
  refine ⟨W.tombE (getL k R) r, (IxTombC h bx k R sx r hs.ix hz1 ((mayB_iff k).1 hm) hs1 (hs.tw.gl k).wf.outer).mono P ?_⟩
  rintro v h1 ⟨rfl, g, sx1, o1, nb, ix⟩
  have hm1 := hs.idx o1 nb ix
  obtain ⟨p1, p2⟩ := hm1.p hs
  refine ⟨rfl, o1, (rIxTombC h1 br k Q sr r hm1.rx hz2 p1 p2 hs2 hm).mono P ?_⟩
  rintro v h2 ⟨rfl, o2, g2, sr1, rx, nb2⟩
  obtain ⟨e1, tw⟩ := hs.tw.tomb k r g g2
  exact ⟨by rw [e1], o2, _, _, sx1, sr1, PyM.doc hs hm1 o2 rx nb2 tw⟩
theorem pairRest (hs : PyS hb h bx br n R Q sx sr) (hn : n ≤ 100) (r : Rc) (hv : r.version < W.M64) : Pair hb h bx br (n + 1) sx 9 10 [rcA r] := by
 cases hm : mayB r.key with
 | false => exact pairBad hs (fun h => IxRestBad h bx r (bad_key hm)) (fun h => rIxRestBad h br r hm)
 | true =>
  obtain ⟨hz1, hz2⟩ := hs.zz hn
  obtain ⟨hs1, hs2⟩ := hs.sz hn r.key
  cases ht : r.tomb with
  | false =>
   refine ⟨W.restE (getL r.key R) r.rev r.create r.version, (IxRestC h bx R sx r hs.ix hz1 ((mayB_iff _).1 hm) hs1 ht).mono P ?_⟩
   rintro v h1 ⟨rfl, g, sx1, o1, nb, ix⟩
   have hm1 := hs.idx o1 nb ix
   obtain ⟨p1, p2⟩ := hm1.p hs
   refine ⟨rfl, o1, (rIxRestC h1 br Q sr r hm1.rx hz2 p1 p2 hs2 hv hm ht).mono P ?_⟩
   rintro v h2 ⟨rfl, o2, g2, sr1, rx, nb2⟩
   obtain ⟨e1, tw⟩ := hs.tw.rest r.key r.rev r.create r.version g g2
   exact ⟨by rw [e1], o2, _, _, sx1, sr1, PyM.doc hs hm1 o2 rx nb2 tw⟩
  | true =>
   refine ⟨if W.tombE (getL r.key R) r.rev = 5 then 0 else W.tombE (getL r.key R) r.rev, (IxRestT h bx R sx r hs.ix hz1 ((mayB_iff _).1 hm) hs1 (hs.tw.gl r.key).wf.outer ht).mono P ?_⟩
   rintro v h1 ⟨rfl, g, sx1, o1, nb, ix⟩
   have hm1 := hs.idx o1 nb ix
   obtain ⟨p1, p2⟩ := hm1.p hs
   refine ⟨rfl, o1, (rIxRestT h1 br Q sr r hm1.rx hz2 p1 p2 hs2 hm ht).mono P ?_⟩
   rintro v h2 ⟨rfl, o2, g2, sr1, rx, nb2⟩
   obtain ⟨e1, tw⟩ := hs.tw.tomb r.key r.rev g g2
   exact ⟨by rw [e1], o2, _, _, sx1, sr1, PyM.doc hs hm1 o2 rx nb2 tw⟩
theorem pairComp (hs : PyS hb h bx br n R Q sx sr) (hn : n ≤ 100) (m : Nat) :
  ∃ l, l.length ≤ 100 ∧ PushC P (.enter 12 [.ptr bx 0, W.n64 m] h) fun v h1 => v.one = true ∧ Only h h1 (bx :: rowL sx) ∧ PushC P (.enter 13 [.ptr br 0, W.n64 m] h1) fun u h2 => Only h1 h2 [br] ∧ SliceAt h2 v l.length (W.rvsC l) ∧ SliceAt h2 u l.length (W.rvsC l) ∧ u.one = true ∧ ∃ R Q sx sr, PyS hb h2 bx br (n + 1) R Q sx sr := by
 obtain ⟨hz1, hz2⟩ := hs.zz hn
 have hlen := hs.tw.len
 have hle := hs.tw.le
 refine ⟨rKeptL m Q, Nat.le_trans (rKept_len m Q) (by omega), (compactC h bx m R sx hs.ix (fun p hp => (hs.tw.szp hp).le (by omega))).mono P ?_⟩
 rintro v h1 ⟨o1, g1, R1, sx1, hR, nb, ix⟩
 have o1' : Only h h1 (bx :: rowL sx) := ⟨o1.1, fun c hc hn => o1.2 c hc (fun e => hn (by rw [List.mem_singleton] at e; subst e; simp))⟩
 have hm1 := hs.idx o1' nb ix
 obtain ⟨p1, p2⟩ := hm1.p hs
 rw [hs.tw.kept] at g1
 refine ⟨g1.one, o1', (rCompactC h1 br m Q sr hm1.rx hz2 p1 p2 (fun r hr => (hs.tw.ref hr).1) (fun r hr => Nat.le_trans (hs.tw.ref hr).2.2 (by omega)) (fun r hr => (hs.tw.ref hr).2.1)).mono P ?_⟩
 rintro u h2 ⟨o2, g2, Y, sr1, hY, rx, nb2⟩
 have hrl := hs.rx.lt
 exact ⟨o2, g1.slice.only o2 (fun c e => by have := (g1.base e).1; simp; omega), g2.slice, g2.one, _, _, sx1, sr1, PyM.doc hs hm1 o2 rx (fun c e => .inr (nb2 c e)) (hs.tw.comp hR hY)⟩
end
end Go.Proofs.YtlkngpckibidlaaGreat.X

namespace Go.Proofs.YtlkngpckibidlaaGreat.X
open Go Go.AX
noncomputable section
set_option maxRecDepth 1000000 in
theorem worksG : groundAt P noHook 60000 15 [] = some (.bool true):= by kernel_rfl
theorem worksC (h : H) {Q : AV → H → Prop} (hq : Q (.bool true) h) : CallC P (.enter 15 [] h) Q := callC_closed worksG hq
def PostTrue (v : AV) (_ : H) : Prop := v = .bool true
end
end Go.Proofs.YtlkngpckibidlaaGreat.X


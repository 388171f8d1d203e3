/-
  'SessOpens' returns true, in every world where the package-level variables start as the program's text lays them; the argument reads as it did.
-/
import Derived.Test.YtllmfnedkhiomaaGreatDoorAxI
import Derived.Test.YtllmfnedkhiomaaGreatDoorG2
import Derived.Test.YtllmfnedkhiomaaGreatDoorG1
import Derived.Test.YtllmfnedkhiomaaGreatDoorG0
import Derived.WideKeyElems2
import Derived.Test.YtllmfnedkhiomaaGreatDoorRows
import Derived.Test.YtllmfnedkhiomaaGreatDoorTie
import Derived.Test.YtllmfnedkhiomaaGreatDoorCards
import Derived.ProofKit
import Derived.OpenShut
import Derived.LaidLaws
import Derived.LaidHandle
import Derived.Lay
import Derived.MakeChecks
import Derived.SevenTiedAt
import Derived.Lib.LaidU8
set_option linter.unusedSimpArgs false
set_option linter.unusedVariables false
set_option linter.unusedSectionVars false
open Nat (reduceLT reduceLeDiff reduceEqDiff reduceAdd reduceMul reduceSub)
namespace Go.Proofs.YtllmfnedkhiomaaGreatDoor.S
open Go Go.AX
noncomputable section
set_option maxRecDepth 100000
set_option maxHeartbeats 4000000 in
theorem roLook (K : KQ) (tm : T AV) (h : H) (Y : List Kp) (i : Nat) (ky txt : List Nat) (c b ba : Nat) (L : List Rw) (v va : AV) (t0 : tm.get 0 = some va) (t4 : tm.get 4 = some (.ptr b 0)) (t5 : tm.get 5 = some (.str txt)) (t6 : tm.get 6 = some (.int .i64 (.ofNat i))) (t7 : tm.get 7 = some (.str ky)) (t8 : tm.get 8 = some (.int .u64 (.ofNat c)))
  (ga : Grows 2 ba h va Y.length (kpsC Y)) (hY : Y.length ≤ 1000) (hi : i < Y.length) (hk : ky.length = 16)
  (k : RfAt h b L v) (hL : L.length ≤ 1000) (ht : isBy txt) (hz : txt.length < 1000000) (hc : c < 281474976710656)
  (hC : ∀ tm2, lookB Y i ky → tm2.get 0 = tm.get 0 → tm2.get 4 = tm.get 4 → tm2.get 6 = tm.get 6 → tm2.get 5 = tm.get 5 → K (.exit 1) [] tm2 h)
  (hF : ∀ tm2 h2, ¬ lookB Y i ky → Ol b h h2 → tm2.get 2 = some .nilptr → tm2.get 3 = some (.int .i64 (.ofNat 4)) → ¬ (readOk txt = true ∧ 0 < c) → K .ret [] tm2 h2)
  (hK : ∀ tm2 h2 v2, ¬ lookB Y i ky → readOk txt = true → 0 < c → RfAt h2 b (L ++ [(c, readV txt)]) v2 → Ol b h h2 → tm2.get 0 = tm.get 0 → tm2.get 4 = tm.get 4 → tm2.get 6 = tm.get 6 → tm2.get 5 = some (.str []) → K .norm [] tm2 h2) :
  codeW P 11 151 none (codeI (bodyC Tryz.f11) [1, 1, 1, 1, 1, 0, 0, 1, 0, 0, 1, 0, 1, 1, 1]) [] tm h K := by
 have hlen := ga.slice.len (P := P) u44a
 have w1 : wrapF .i64 (Int.ofNat i + Int.ofNat 1) = Int.ofNat (i + 1) := i64_add (by omega)
 have ck := cut_hiK ky 14 .i64 (by omega)
 by_cases q1 : i + 1 < Y.length
 ·have d1 : decide (i + 1 < Y.length) = true := decide_eq_true q1
  have lt1 : (i + 1 < Y.length) = True:= by simp [q1]
  obtain ⟨⟨k2, p2⟩, hx⟩ : ∃ x, Y[i + 1]? = some x := ⟨_, List.getElem?_eq_getElem q1⟩
  obtain ⟨bv, ov, cv, rfl, hbv, -⟩ := ga.slice.place (by omega)
  obtain rfl : ov = 0:= by cases ga; rfl
  obtain ⟨a0, a1⟩ := kps_at ga hx
  simp only at a0 a1
  by_cases q2 : k2.length = 16
  ·have d2 : decide (k2.length = 16) = true := decide_eq_true q2
   have ck2 := cut_hiK k2 14 .i64 (by omega)
   by_cases q3 : k2.take 14 = ky.take 14
   ·have d3 : decide (k2.take 14 = ky.take 14) = true := decide_eq_true q3
    have hl : lookB Y i ky := ⟨_, hx, q2, q3⟩
    repeat' (first | ((with_reducible refine st1 ?_); (conv => whnf); (with_reducible refine ⟨?_⟩)) | ((with_reducible refine st_dw ?_ rfl rfl ?_ ?_); exact rfl; kernel_rfl; (conv => arg 5; whnf); (conv => arg 3; whnf)) | ((with_reducible refine retW_intro rfl ?_); (conv => arg 2; whnf)) | ((with_reducible first | refine iB ?_ ?_ | refine gWt ?_ ?_ | refine gWf ?_ ?_ | refine gXt ?_ ?_ | refine gXf ?_ ?_) <;> intro hb <;> (try simp only [hb])) | ((with_reducible show drawI _ _ _ _ _ _ _ _ _); first | ((with_reducible refine kI_rd ?_ ?_); exact rfl) | ((with_reducible apply kI_rg); exact rfl; exact rfl) | ((with_reducible refine kI_cv ?_ ?_ ?_); exact rfl; kernel_rfl) | ((with_reducible apply kI_al); exact rfl; exact rfl) | ((with_reducible refine kI_ex ?_ ?_ ?_ ?_ ?_); exact rfl; kernel_rfl; exact rfl) | ((with_reducible apply kI_eg); exact rfl; kernel_rfl; exact rfl) | ((with_reducible refine kI_nl ?_ ?_))) | ((with_reducible show eOk _ _ _ _ _ _); first | (exact eok_nil) | (refine ke_rd ?_ ?_ ?_; exact rfl) | (apply ke_rg; exact rfl; exact rfl) | (refine ke_cv ?_ ?_ ?_ ?_; exact rfl; kernel_rfl) | (apply ke_fl; exact rfl) | (apply ke_al; exact rfl; exact rfl)) | ((with_reducible refine freshIs_new ?_); kernel_rfl) | (simp only [B, xB, F, reduceLT, reduceLeDiff, reduceEqDiff, reduceAdd, reduceMul, reduceSub, ↓reduceIte, eq_self, t0, t6, t7, hlen, w1, d1, lt1, Nat.zero_add, a0, d2, @ex_sl_h, ck, ck2, d3]))
    exact hC _ hl (by simp only [B, xB, F, reduceLT, reduceLeDiff, reduceEqDiff, reduceAdd, reduceMul, reduceSub, ↓reduceIte, eq_self]) (by simp only [B, xB, F, reduceLT, reduceLeDiff, reduceEqDiff, reduceAdd, reduceMul, reduceSub, ↓reduceIte, eq_self]) (by simp only [B, xB, F, reduceLT, reduceLeDiff, reduceEqDiff, reduceAdd, reduceMul, reduceSub, ↓reduceIte, eq_self]) (by simp only [B, xB, F, reduceLT, reduceLeDiff, reduceEqDiff, reduceAdd, reduceMul, reduceSub, ↓reduceIte, eq_self])
   ·have d3 : decide (k2.take 14 = ky.take 14) = false := decide_eq_false q3
    have hl : ¬ lookB Y i ky := fun ⟨p, e, _, e2⟩ => by
     rw [hx] at e; cases e; exact q3 e2
    repeat' (first | (with_reducible refine stopC [1, 1, 1, 1, 1, 1, 0, 0, 1, 0, 0, 1, 0, 1, 1, 1] ?_) | ((with_reducible refine st1 ?_); (conv => whnf); (with_reducible refine ⟨?_⟩)) | ((with_reducible refine st_dw ?_ rfl rfl ?_ ?_); exact rfl; kernel_rfl; (conv => arg 5; whnf); (conv => arg 3; whnf)) | ((with_reducible refine retW_intro rfl ?_); (conv => arg 2; whnf)) | ((with_reducible first | refine iB ?_ ?_ | refine gWt ?_ ?_ | refine gWf ?_ ?_ | refine gXt ?_ ?_ | refine gXf ?_ ?_) <;> intro hb <;> (try simp only [hb])) | ((with_reducible show drawI _ _ _ _ _ _ _ _ _); first | ((with_reducible refine kI_rd ?_ ?_); exact rfl) | ((with_reducible apply kI_rg); exact rfl; exact rfl) | ((with_reducible refine kI_cv ?_ ?_ ?_); exact rfl; kernel_rfl) | ((with_reducible apply kI_al); exact rfl; exact rfl) | ((with_reducible refine kI_ex ?_ ?_ ?_ ?_ ?_); exact rfl; kernel_rfl; exact rfl) | ((with_reducible apply kI_eg); exact rfl; kernel_rfl; exact rfl) | ((with_reducible refine kI_nl ?_ ?_))) | ((with_reducible show eOk _ _ _ _ _ _); first | (exact eok_nil) | (refine ke_rd ?_ ?_ ?_; exact rfl) | (apply ke_rg; exact rfl; exact rfl) | (refine ke_cv ?_ ?_ ?_ ?_; exact rfl; kernel_rfl) | (apply ke_fl; exact rfl) | (apply ke_al; exact rfl; exact rfl)) | ((with_reducible refine freshIs_new ?_); kernel_rfl) | (simp only [B, xB, F, reduceLT, reduceLeDiff, reduceEqDiff, reduceAdd, reduceMul, reduceSub, ↓reduceIte, eq_self, t0, t6, t7, hlen, w1, d1, lt1, Nat.zero_add, a0, d2, @ex_sl_h, ck, ck2, d3]))
    refine ⟨roRow _ _ h txt c b L v (by simp only [B, xB, F, reduceLT, reduceLeDiff, reduceEqDiff, reduceAdd, reduceMul, reduceSub, ↓reduceIte, eq_self, t4]) (by simp only [B, xB, F, reduceLT, reduceLeDiff, reduceEqDiff, reduceAdd, reduceMul, reduceSub, ↓reduceIte, eq_self, t5]) (by simp only [B, xB, F, reduceLT, reduceLeDiff, reduceEqDiff, reduceAdd, reduceMul, reduceSub, ↓reduceIte, eq_self, t8]) k hL ht hz hc (fun tm2 h2 o e2 e3 n => hF tm2 h2 hl o e2 e3 n) (fun tm2 h2 v2 r1 r2 r3 r4 r5 r6 r7 r8 => hK tm2 h2 v2 hl r1 r2 r3 r4 (r5.trans (by simp only [B, xB, F, reduceLT, reduceLeDiff, reduceEqDiff, reduceAdd, reduceMul, reduceSub, ↓reduceIte, eq_self])) (r6.trans (by simp only [B, xB, F, reduceLT, reduceLeDiff, reduceEqDiff, reduceAdd, reduceMul, reduceSub, ↓reduceIte, eq_self])) (r7.trans (by simp only [B, xB, F, reduceLT, reduceLeDiff, reduceEqDiff, reduceAdd, reduceMul, reduceSub, ↓reduceIte, eq_self])) r8)⟩
  ·have d2 : decide (k2.length = 16) = false := decide_eq_false q2
   have hl : ¬ lookB Y i ky := fun ⟨p, e, e1, _⟩ => by
    rw [hx] at e; cases e; exact q2 e1
   repeat' (first | (with_reducible refine stopC [1, 1, 1, 1, 1, 1, 0, 0, 1, 0, 0, 1, 0, 1, 1, 1] ?_) | ((with_reducible refine st1 ?_); (conv => whnf); (with_reducible refine ⟨?_⟩)) | ((with_reducible refine st_dw ?_ rfl rfl ?_ ?_); exact rfl; kernel_rfl; (conv => arg 5; whnf); (conv => arg 3; whnf)) | ((with_reducible refine retW_intro rfl ?_); (conv => arg 2; whnf)) | ((with_reducible first | refine iB ?_ ?_ | refine gWt ?_ ?_ | refine gWf ?_ ?_ | refine gXt ?_ ?_ | refine gXf ?_ ?_) <;> intro hb <;> (try simp only [hb])) | ((with_reducible show drawI _ _ _ _ _ _ _ _ _); first | ((with_reducible refine kI_rd ?_ ?_); exact rfl) | ((with_reducible apply kI_rg); exact rfl; exact rfl) | ((with_reducible refine kI_cv ?_ ?_ ?_); exact rfl; kernel_rfl) | ((with_reducible apply kI_al); exact rfl; exact rfl) | ((with_reducible refine kI_ex ?_ ?_ ?_ ?_ ?_); exact rfl; kernel_rfl; exact rfl) | ((with_reducible apply kI_eg); exact rfl; kernel_rfl; exact rfl) | ((with_reducible refine kI_nl ?_ ?_))) | ((with_reducible show eOk _ _ _ _ _ _); first | (exact eok_nil) | (refine ke_rd ?_ ?_ ?_; exact rfl) | (apply ke_rg; exact rfl; exact rfl) | (refine ke_cv ?_ ?_ ?_ ?_; exact rfl; kernel_rfl) | (apply ke_fl; exact rfl) | (apply ke_al; exact rfl; exact rfl)) | ((with_reducible refine freshIs_new ?_); kernel_rfl) | (simp only [B, xB, F, reduceLT, reduceLeDiff, reduceEqDiff, reduceAdd, reduceMul, reduceSub, ↓reduceIte, eq_self, t0, t6, t7, hlen, w1, d1, lt1, Nat.zero_add, a0, d2, @ex_sl_h, ck]))
   refine ⟨roRow _ _ h txt c b L v (by simp only [B, xB, F, reduceLT, reduceLeDiff, reduceEqDiff, reduceAdd, reduceMul, reduceSub, ↓reduceIte, eq_self, t4]) (by simp only [B, xB, F, reduceLT, reduceLeDiff, reduceEqDiff, reduceAdd, reduceMul, reduceSub, ↓reduceIte, eq_self, t5]) (by simp only [B, xB, F, reduceLT, reduceLeDiff, reduceEqDiff, reduceAdd, reduceMul, reduceSub, ↓reduceIte, eq_self, t8]) k hL ht hz hc (fun tm2 h2 o e2 e3 n => hF tm2 h2 hl o e2 e3 n) (fun tm2 h2 v2 r1 r2 r3 r4 r5 r6 r7 r8 => hK tm2 h2 v2 hl r1 r2 r3 r4 (r5.trans (by simp only [B, xB, F, reduceLT, reduceLeDiff, reduceEqDiff, reduceAdd, reduceMul, reduceSub, ↓reduceIte, eq_self])) (r6.trans (by simp only [B, xB, F, reduceLT, reduceLeDiff, reduceEqDiff, reduceAdd, reduceMul, reduceSub, ↓reduceIte, eq_self])) (r7.trans (by simp only [B, xB, F, reduceLT, reduceLeDiff, reduceEqDiff, reduceAdd, reduceMul, reduceSub, ↓reduceIte, eq_self])) r8)⟩
 ·have d1 : decide (i + 1 < Y.length) = false := decide_eq_false q1
  have hl : ¬ lookB Y i ky := fun ⟨p, e, _, _⟩ => by
   rw [List.getElem?_eq_none (by omega)] at e; cases e
  repeat' (first | (with_reducible refine stopC [1, 1, 1, 1, 1, 1, 0, 0, 1, 0, 0, 1, 0, 1, 1, 1] ?_) | ((with_reducible refine st1 ?_); (conv => whnf); (with_reducible refine ⟨?_⟩)) | ((with_reducible refine st_dw ?_ rfl rfl ?_ ?_); exact rfl; kernel_rfl; (conv => arg 5; whnf); (conv => arg 3; whnf)) | ((with_reducible refine retW_intro rfl ?_); (conv => arg 2; whnf)) | ((with_reducible first | refine iB ?_ ?_ | refine gWt ?_ ?_ | refine gWf ?_ ?_ | refine gXt ?_ ?_ | refine gXf ?_ ?_) <;> intro hb <;> (try simp only [hb])) | ((with_reducible show drawI _ _ _ _ _ _ _ _ _); first | ((with_reducible refine kI_rd ?_ ?_); exact rfl) | ((with_reducible apply kI_rg); exact rfl; exact rfl) | ((with_reducible refine kI_cv ?_ ?_ ?_); exact rfl; kernel_rfl) | ((with_reducible apply kI_al); exact rfl; exact rfl) | ((with_reducible refine kI_ex ?_ ?_ ?_ ?_ ?_); exact rfl; kernel_rfl; exact rfl) | ((with_reducible apply kI_eg); exact rfl; kernel_rfl; exact rfl) | ((with_reducible refine kI_nl ?_ ?_))) | ((with_reducible show eOk _ _ _ _ _ _); first | (exact eok_nil) | (refine ke_rd ?_ ?_ ?_; exact rfl) | (apply ke_rg; exact rfl; exact rfl) | (refine ke_cv ?_ ?_ ?_ ?_; exact rfl; kernel_rfl) | (apply ke_fl; exact rfl) | (apply ke_al; exact rfl; exact rfl)) | ((with_reducible refine freshIs_new ?_); kernel_rfl) | (simp only [B, xB, F, reduceLT, reduceLeDiff, reduceEqDiff, reduceAdd, reduceMul, reduceSub, ↓reduceIte, eq_self, t0, t6, t7, hlen, w1, d1]))
  refine ⟨roRow _ _ h txt c b L v (by simp only [B, xB, F, reduceLT, reduceLeDiff, reduceEqDiff, reduceAdd, reduceMul, reduceSub, ↓reduceIte, eq_self, t4]) (by simp only [B, xB, F, reduceLT, reduceLeDiff, reduceEqDiff, reduceAdd, reduceMul, reduceSub, ↓reduceIte, eq_self, t5]) (by simp only [B, xB, F, reduceLT, reduceLeDiff, reduceEqDiff, reduceAdd, reduceMul, reduceSub, ↓reduceIte, eq_self, t8]) k hL ht hz hc (fun tm2 h2 o e2 e3 n => hF tm2 h2 hl o e2 e3 n) (fun tm2 h2 v2 r1 r2 r3 r4 r5 r6 r7 r8 => hK tm2 h2 v2 hl r1 r2 r3 r4 (r5.trans (by simp only [B, xB, F, reduceLT, reduceLeDiff, reduceEqDiff, reduceAdd, reduceMul, reduceSub, ↓reduceIte, eq_self])) (r6.trans (by simp only [B, xB, F, reduceLT, reduceLeDiff, reduceEqDiff, reduceAdd, reduceMul, reduceSub, ↓reduceIte, eq_self])) (r7.trans (by simp only [B, xB, F, reduceLT, reduceLeDiff, reduceEqDiff, reduceAdd, reduceMul, reduceSub, ↓reduceIte, eq_self])) r8)⟩
end
end Go.Proofs.YtllmfnedkhiomaaGreatDoor.S

namespace Go.Proofs.YtllmfnedkhiomaaGreatDoor.S
open Go Go.AX
noncomputable section
set_option maxRecDepth 100000
structure RoI (h0 : H) (va : AV) (Y : List Kp) (m : Nat) (ds : List Nat) (tm : T AV) (h : H) (i : Nat) (L : List Rw) (v : AV) (txt : List Nat) : Prop where
 ds : ds = []
 nn : m = Y.length - i
 ii : i ≤ Y.length
 t0 : tm.get 0 = some va
 t4 : tm.get 4 = some (.ptr h0.nx 0)
 t5 : tm.get 5 = some (.str txt)
 t6 : tm.get 6 = some (.int .i64 (.ofNat i))
 k : RfAt h h0.nx L v
 ln : L.length ≤ i
 ok : ∀ y, y ∈ L → Ok1 y
 bt : isBy txt
 tl : txt.length ≤ i * 200
 tr : ∀ R, ValB R → allP R = Y → Trk R i L txt
 ol : Ol h0.nx h0 h
structure RoYes (h0 : H) (Y : List Kp) (u : AV) (h' : H) (b : Nat) (L : List Rw) (v : AV) : Prop where
 u : u = .tuple [.ptr b 0, .int .i64 (.ofNat 0)]
 k : RfAt h' b L v
 val : ValB L
 eq : allP L = Y
 oo : Og h0 h' []
 ge : h0.nx ≤ b
structure RoNo (h0 : H) (Y : List Kp) (u : AV) (h' : H) : Prop where
 u : u = .tuple [.nilptr, .int .i64 (.ofNat 4)]
 oo : Og h0 h' []
 no : ¬ GoodY Y
def RoPost (h0 : H) (Y : List Kp) (u : AV) (h' : H) : Prop := (∃ b L v, RoYes h0 Y u h' b L v) ∨ RoNo h0 Y u h'
structure RcI (h1 : H) (va vb : AV) (b : Nat) (Y Z : List Kp) (m : Nat) (ds : List Nat) (tm : T AV) (h : H) (i : Nat) : Prop where
 ds : ds = []
 nn : m = Y.length - i
 ii : i ≤ Y.length
 t0 : tm.get 0 = some va
 t4 : tm.get 4 = some (.ptr b 0)
 t12 : tm.get 12 = some vb
 t13 : tm.get 13 = some (.int .i64 (.ofNat i))
 sm : ∀ j, j < i → Z[j]? = Y[j]?
 hh : h = h1
theorem Ol.og {h0 h : H} (o : Ol h0.nx h0 h) : Og h0 h [] := ⟨⟨o.nx, fun c hc _ => o.ol c hc⟩, o.g⟩
theorem eqB_dec (a b : List Nat) : listEqB a b = decide (a = b) := by
 rw [Bool.eq_iff_iff, decide_eq_true_iff]; exact listEqB_iff a b
theorem numV_hx {d : List Nat} (h : allHx d) : numV d = .tuple [.int .u64 (.ofNat (numX d)), .bool true] := if_pos h
theorem numV_no {d : List Nat} (h : ¬ allHx d) : numV d = .tuple [.int .u64 (.ofNat 0), .bool false] := if_neg h
theorem readV_lt {s : List Nat} (hs : isBy s) (hz : s.length < 1000000) : (readV s).1 < M64 := (numR_by (bad := false) hs hz).2.2
theorem roTail (h0 h : H) (tm : T AV) (va : AV) (ba : Nat) (Y : List Kp) (L : List Rw) (v : AV) (ga : Grows 2 ba h va Y.length (kpsC Y)) (hY : Y.length ≤ 800) (t0 : tm.get 0 = some va) (t4 : tm.get 4 = some (.ptr h0.nx 0)) (k : RfAt h h0.nx L v)
  (ln : L.length ≤ Y.length) (ok : ∀ y, y ∈ L → Ok1 y) (nd : (Y.map (·.1)).Nodup) (tr : ∀ R, ValB R → allP R = Y → R = L) (ol : Ol h0.nx h0 h) :
  codeW P 11 151 none (codeI (bodyC Tryz.f11) [1, 1, 1, 1]) [] tm h (retK P Tryz.f11 (RoPost h0 Y)) := by
 repeat' (first | ((with_reducible refine st1 ?_); (conv => whnf); (with_reducible refine ⟨?_⟩)) | ((with_reducible refine retW_intro rfl ?_); (conv => arg 2; whnf)) | ((with_reducible first | refine iB ?_ ?_ | refine gWt ?_ ?_ | refine gWf ?_ ?_) <;> intro hb <;> (try simp only [hb])) | (simp only [B, xB, F, reduceLT, reduceLeDiff, reduceEqDiff, reduceAdd, reduceMul, reduceSub, ↓reduceIte, eq_self, t4]))
 refine ((rPairsC h h0.nx L v k (by omega) (fun y hy => (ok y hy).1)).call P).mono P ?_
 rintro vb h1 ⟨o1, gb⟩
 have k1 := k.keep o1 (by simp)
 have c01 := k1.c0
 have ga1 : Grows 2 ba h1 va Y.length (kpsC Y) := ga.of_get o1.1.1 (fun d e => o1.1.2 d (ga.base e).2 (by simp))
 have hla := ga1.slice.len (P := P) u44a
 have hlb := gb.slice.len (P := P) u44a
 have hlv := k1.gr.slice.len (P := P) u39a
 have va1 := ga1.one
 have vb1 := gb.one
 have vv1 := k1.gr.one
 have ol1 : Ol h0.nx h0 h1 := ol.t (o1.ol (by have := k.lt; omega) (by simp))
 have hal := allP_len (L := L) fun y hy => (ok y hy).1
 by_cases q1 : (allP L).length = Y.length
 ·have d1 : decide ((allP L).length = Y.length) = true := decide_eq_true q1
  by_cases q2 : 64 < L.length
  ·have d2 : decide (64 < L.length) = true := decide_eq_true q2
   repeat' (first | ((with_reducible refine st1 ?_); (conv => whnf); (with_reducible refine ⟨?_⟩)) | ((with_reducible refine retW_intro rfl ?_); (conv => arg 2; whnf)) | ((with_reducible first | refine iB ?_ ?_ | refine gWt ?_ ?_ | refine gWf ?_ ?_) <;> intro hb <;> (try simp only [hb])) | (simp only [B, xB, F, reduceLT, reduceLeDiff, reduceEqDiff, reduceAdd, reduceMul, reduceSub, ↓reduceIte, eq_self, t0, t4, hla, hlb, d1, Bool.not_true, c01, hlv, d2]))
   refine .inr ⟨rfl, ol1.og, ?_⟩
   rintro ⟨R, hv, e⟩
   have := tr R hv e
   have h64 := hv.len
   rw [this] at h64; omega
  ·have d2 : decide (64 < L.length) = false := decide_eq_false q2
   repeat' (first | ((with_reducible refine st1 ?_); (conv => whnf); (with_reducible refine ⟨?_⟩)) | ((with_reducible refine retW_intro rfl ?_); (conv => arg 2; whnf)) | ((with_reducible first | refine iB ?_ ?_ | refine gWt ?_ ?_ | refine gWf ?_ ?_) <;> intro hb <;> (try simp only [hb])) | (simp only [B, xB, F, reduceLT, reduceLeDiff, reduceEqDiff, reduceAdd, reduceMul, reduceSub, ↓reduceIte, eq_self, t0, t4, hla, hlb, d1, Bool.not_true, c01, hlv, d2]))
   refine st_loop (fun m ds tm h => ∃ i, RcI h1 va vb h0.nx Y (allP L) m ds tm h i) Y.length rfl ⟨0, rfl, rfl, Nat.zero_le _, by simp only [B, xB, F, reduceLT, reduceLeDiff, reduceEqDiff, reduceAdd, reduceMul, reduceSub, ↓reduceIte, eq_self, t0], by simp only [B, xB, F, reduceLT, reduceLeDiff, reduceEqDiff, reduceAdd, reduceMul, reduceSub, ↓reduceIte, eq_self, t4], by simp only [B, xB, F, reduceLT, reduceLeDiff, reduceEqDiff, reduceAdd, reduceMul, reduceSub, ↓reduceIte, eq_self], by simp only [B, xB, F, reduceLT, reduceLeDiff, reduceEqDiff, reduceAdd, reduceMul, reduceSub, ↓reduceIte, eq_self], fun j hj => absurd hj (by omega), rfl⟩ (fun m ds tm h2 hI => ?_)
   clear t0 t4
   obtain ⟨i, rfl, rfl, ii, t0, t4, t12, t13, sm, rfl⟩ := hI
   by_cases hi : i < Y.length
   ·have di : decide (i < Y.length) = true := decide_eq_true hi
    have lt1 : (i < Y.length) = True:= by simp [hi]
    have lt2 : (i < (allP L).length) = True:= by simp [q1, hi]
    obtain ⟨⟨k1', p1'⟩, hx⟩ : ∃ x, Y[i]? = some x := ⟨_, List.getElem?_eq_getElem hi⟩
    obtain ⟨⟨k2, p2⟩, hy⟩ : ∃ x, (allP L)[i]? = some x := ⟨_, List.getElem?_eq_getElem (by omega)⟩
    obtain ⟨bv, ov, cv, rfl, hbv, -⟩ := ga1.slice.place (by omega)
    obtain rfl : ov = 0:= by cases ga1; rfl
    obtain ⟨bw, ow, cw, rfl, hbw, -⟩ := gb.slice.place (by omega)
    obtain rfl : ow = 0:= by cases gb; rfl
    obtain ⟨a0, a1⟩ := kps_at ga1 hx
    obtain ⟨b0, b1⟩ := kps_at gb hy
    simp only at a0 a1 b0 b1
    have w1 : wrapF .i64 (Int.ofNat i + Int.ofNat 1) = Int.ofNat (i + 1) := i64_add (by omega)
    by_cases q3 : (k2, p2) = (k1', p1')
    ·obtain ⟨rfl, rfl⟩ := Prod.mk.inj q3
     have ek : listEqB k2 k2 = true := (listEqB_iff k2 k2).2 rfl
     have ep : listEqB p2 p2 = true := (listEqB_iff p2 p2).2 rfl
     repeat' (first | ((with_reducible refine st1 ?_); (conv => whnf); (with_reducible refine ⟨?_⟩)) | ((with_reducible refine st_dw ?_ rfl rfl ?_ ?_); exact rfl; kernel_rfl; (conv => arg 5; whnf); (conv => arg 3; whnf)) | ((with_reducible refine retW_intro rfl ?_); (conv => arg 2; whnf)) | ((with_reducible first | refine iB ?_ ?_ | refine gWt ?_ ?_ | refine gWf ?_ ?_ | refine gXt ?_ ?_ | refine gXf ?_ ?_) <;> intro hb <;> (try simp only [hb])) | ((with_reducible show drawI _ _ _ _ _ _ _ _ _); first | ((with_reducible refine kI_rd ?_ ?_); exact rfl) | ((with_reducible apply kI_rg); exact rfl; exact rfl) | ((with_reducible refine kI_cv ?_ ?_ ?_); exact rfl; kernel_rfl) | ((with_reducible apply kI_al); exact rfl; exact rfl) | ((with_reducible refine kI_ex ?_ ?_ ?_ ?_ ?_); exact rfl; kernel_rfl; exact rfl) | ((with_reducible apply kI_eg); exact rfl; kernel_rfl; exact rfl) | ((with_reducible refine kI_nl ?_ ?_))) | ((with_reducible show eOk _ _ _ _ _ _); first | (exact eok_nil) | (refine ke_rd ?_ ?_ ?_; exact rfl) | (apply ke_rg; exact rfl; exact rfl) | (refine ke_cv ?_ ?_ ?_ ?_; exact rfl; kernel_rfl) | (apply ke_fl; exact rfl) | (apply ke_al; exact rfl; exact rfl)) | ((with_reducible refine freshIs_new ?_); kernel_rfl) | (simp only [B, xB, F, reduceLT, reduceLeDiff, reduceEqDiff, reduceAdd, reduceMul, reduceSub, ↓reduceIte, eq_self, t0, t4, t12, t13, va1, vb1, hla, hlb, di, lt1, lt2, Nat.zero_add, a0, a1, b0, b1, ek, ep, w1]))
     refine ⟨Y.length - (i + 1), by omega, i + 1, rfl, rfl, by omega, by simp only [B, xB, F, reduceLT, reduceLeDiff, reduceEqDiff, reduceAdd, reduceMul, reduceSub, ↓reduceIte, eq_self, t0], by simp only [B, xB, F, reduceLT, reduceLeDiff, reduceEqDiff, reduceAdd, reduceMul, reduceSub, ↓reduceIte, eq_self, t4], by simp only [B, xB, F, reduceLT, reduceLeDiff, reduceEqDiff, reduceAdd, reduceMul, reduceSub, ↓reduceIte, eq_self, t12], by simp only [B, xB, F, reduceLT, reduceLeDiff, reduceEqDiff, reduceAdd, reduceMul, reduceSub, ↓reduceIte, eq_self], fun j hj => ?_, rfl⟩
     by_cases e : j < i
     ·exact sm j e
     ·obtain rfl : j = i:= by omega
      rw [hx, hy]
    ·have hno : RoNo h0 Y (.tuple [.nilptr, .int .i64 (.ofNat 4)]) h2 := ⟨rfl, ol1.og, by
      rintro ⟨R, hv, e⟩
      have e2 := tr R hv e
      rw [e2] at e
      rw [e, hx] at hy
      exact q3 (Option.some.inj hy).symm⟩
     by_cases q4 : k2 = k1'
     ·have ek : listEqB k2 k1' = true := (listEqB_iff _ _).2 q4
      have ep : listEqB p2 p1' = false := by
       rw [eqB_dec]; exact decide_eq_false fun e => q3 (by rw [q4, e])
      repeat' (first | ((with_reducible refine st1 ?_); (conv => whnf); (with_reducible refine ⟨?_⟩)) | ((with_reducible refine st_dw ?_ rfl rfl ?_ ?_); exact rfl; kernel_rfl; (conv => arg 5; whnf); (conv => arg 3; whnf)) | ((with_reducible refine retW_intro rfl ?_); (conv => arg 2; whnf)) | ((with_reducible first | refine iB ?_ ?_ | refine gWt ?_ ?_ | refine gWf ?_ ?_ | refine gXt ?_ ?_ | refine gXf ?_ ?_) <;> intro hb <;> (try simp only [hb])) | ((with_reducible show drawI _ _ _ _ _ _ _ _ _); first | ((with_reducible refine kI_rd ?_ ?_); exact rfl) | ((with_reducible apply kI_rg); exact rfl; exact rfl) | ((with_reducible refine kI_cv ?_ ?_ ?_); exact rfl; kernel_rfl) | ((with_reducible apply kI_al); exact rfl; exact rfl) | ((with_reducible refine kI_ex ?_ ?_ ?_ ?_ ?_); exact rfl; kernel_rfl; exact rfl) | ((with_reducible apply kI_eg); exact rfl; kernel_rfl; exact rfl) | ((with_reducible refine kI_nl ?_ ?_))) | ((with_reducible show eOk _ _ _ _ _ _); first | (exact eok_nil) | (refine ke_rd ?_ ?_ ?_; exact rfl) | (apply ke_rg; exact rfl; exact rfl) | (refine ke_cv ?_ ?_ ?_ ?_; exact rfl; kernel_rfl) | (apply ke_fl; exact rfl) | (apply ke_al; exact rfl; exact rfl)) | ((with_reducible refine freshIs_new ?_); kernel_rfl) | (simp only [B, xB, F, reduceLT, reduceLeDiff, reduceEqDiff, reduceAdd, reduceMul, reduceSub, ↓reduceIte, eq_self, t0, t4, t12, t13, va1, vb1, hla, hlb, di, lt1, lt2, Nat.zero_add, a0, a1, b0, b1, ek, ep, w1]))
      exact .inr hno
     ·have ek : listEqB k2 k1' = false:= by rw [eqB_dec]; exact decide_eq_false q4
      cases ep : listEqB p2 p1' with
      | true =>
       repeat' (first | ((with_reducible refine st1 ?_); (conv => whnf); (with_reducible refine ⟨?_⟩)) | ((with_reducible refine st_dw ?_ rfl rfl ?_ ?_); exact rfl; kernel_rfl; (conv => arg 5; whnf); (conv => arg 3; whnf)) | ((with_reducible refine retW_intro rfl ?_); (conv => arg 2; whnf)) | ((with_reducible first | refine iB ?_ ?_ | refine gWt ?_ ?_ | refine gWf ?_ ?_ | refine gXt ?_ ?_ | refine gXf ?_ ?_) <;> intro hb <;> (try simp only [hb])) | ((with_reducible show drawI _ _ _ _ _ _ _ _ _); first | ((with_reducible refine kI_rd ?_ ?_); exact rfl) | ((with_reducible apply kI_rg); exact rfl; exact rfl) | ((with_reducible refine kI_cv ?_ ?_ ?_); exact rfl; kernel_rfl) | ((with_reducible apply kI_al); exact rfl; exact rfl) | ((with_reducible refine kI_ex ?_ ?_ ?_ ?_ ?_); exact rfl; kernel_rfl; exact rfl) | ((with_reducible apply kI_eg); exact rfl; kernel_rfl; exact rfl) | ((with_reducible refine kI_nl ?_ ?_))) | ((with_reducible show eOk _ _ _ _ _ _); first | (exact eok_nil) | (refine ke_rd ?_ ?_ ?_; exact rfl) | (apply ke_rg; exact rfl; exact rfl) | (refine ke_cv ?_ ?_ ?_ ?_; exact rfl; kernel_rfl) | (apply ke_fl; exact rfl) | (apply ke_al; exact rfl; exact rfl)) | ((with_reducible refine freshIs_new ?_); kernel_rfl) | (simp only [B, xB, F, reduceLT, reduceLeDiff, reduceEqDiff, reduceAdd, reduceMul, reduceSub, ↓reduceIte, eq_self, t0, t4, t12, t13, va1, vb1, hla, hlb, di, lt1, lt2, Nat.zero_add, a0, a1, b0, b1, ek, ep, w1]))
       exact .inr hno
      | false =>
       repeat' (first | ((with_reducible refine st1 ?_); (conv => whnf); (with_reducible refine ⟨?_⟩)) | ((with_reducible refine st_dw ?_ rfl rfl ?_ ?_); exact rfl; kernel_rfl; (conv => arg 5; whnf); (conv => arg 3; whnf)) | ((with_reducible refine retW_intro rfl ?_); (conv => arg 2; whnf)) | ((with_reducible first | refine iB ?_ ?_ | refine gWt ?_ ?_ | refine gWf ?_ ?_ | refine gXt ?_ ?_ | refine gXf ?_ ?_) <;> intro hb <;> (try simp only [hb])) | ((with_reducible show drawI _ _ _ _ _ _ _ _ _); first | ((with_reducible refine kI_rd ?_ ?_); exact rfl) | ((with_reducible apply kI_rg); exact rfl; exact rfl) | ((with_reducible refine kI_cv ?_ ?_ ?_); exact rfl; kernel_rfl) | ((with_reducible apply kI_al); exact rfl; exact rfl) | ((with_reducible refine kI_ex ?_ ?_ ?_ ?_ ?_); exact rfl; kernel_rfl; exact rfl) | ((with_reducible apply kI_eg); exact rfl; kernel_rfl; exact rfl) | ((with_reducible refine kI_nl ?_ ?_))) | ((with_reducible show eOk _ _ _ _ _ _); first | (exact eok_nil) | (refine ke_rd ?_ ?_ ?_; exact rfl) | (apply ke_rg; exact rfl; exact rfl) | (refine ke_cv ?_ ?_ ?_ ?_; exact rfl; kernel_rfl) | (apply ke_fl; exact rfl) | (apply ke_al; exact rfl; exact rfl)) | ((with_reducible refine freshIs_new ?_); kernel_rfl) | (simp only [B, xB, F, reduceLT, reduceLeDiff, reduceEqDiff, reduceAdd, reduceMul, reduceSub, ↓reduceIte, eq_self, t0, t4, t12, t13, va1, vb1, hla, hlb, di, lt1, lt2, Nat.zero_add, a0, a1, b0, b1, ek, ep, w1]))
       exact .inr hno
   ·have di : decide (i < Y.length) = false := decide_eq_false hi
    repeat' (first | ((with_reducible refine st1 ?_); (conv => whnf); (with_reducible refine ⟨?_⟩)) | ((with_reducible refine retW_intro rfl ?_); (conv => arg 2; whnf)) | ((with_reducible first | refine iB ?_ ?_ | refine gWt ?_ ?_ | refine gWf ?_ ?_) <;> intro hb <;> (try simp only [hb])) | (simp only [B, xB, F, reduceLT, reduceLeDiff, reduceEqDiff, reduceAdd, reduceMul, reduceSub, ↓reduceIte, eq_self, t0, t4, t12, t13, va1, vb1, hla, hlb, di]))
    have heq : allP L = Y := List.ext_getElem? fun j => by
     by_cases e : j < i
     ·exact sm j e
     ·rw [List.getElem?_eq_none (by omega), List.getElem?_eq_none (by omega)]
    exact .inl ⟨_, L, v, rfl, k1, ⟨by omega, rows_nodup (by rw [heq]; exact nd), ok⟩, heq, ol1.og, Nat.le_refl _⟩
 ·have d1 : decide ((allP L).length = Y.length) = false := decide_eq_false q1
  repeat' (first | ((with_reducible refine st1 ?_); (conv => whnf); (with_reducible refine ⟨?_⟩)) | ((with_reducible refine retW_intro rfl ?_); (conv => arg 2; whnf)) | ((with_reducible first | refine iB ?_ ?_ | refine gWt ?_ ?_ | refine gWf ?_ ?_) <;> intro hb <;> (try simp only [hb])) | (simp only [B, xB, F, reduceLT, reduceLeDiff, reduceEqDiff, reduceAdd, reduceMul, reduceSub, ↓reduceIte, eq_self, t0, t4, hla, hlb, d1, Bool.not_false]))
  refine .inr ⟨rfl, ol1.og, ?_⟩
  rintro ⟨R, hv, e⟩
  have e2 := tr R hv e
  rw [e2] at e
  exact q1 (by rw [e])
end
end Go.Proofs.YtllmfnedkhiomaaGreatDoor.S

namespace Go.Proofs.YtllmfnedkhiomaaGreatDoor.S
open Go Go.AX
noncomputable section
set_option maxRecDepth 100000
theorem vals_by {s p : List Nat} (hs : isBy s) (hp : isBy p) : isBy (s ++ p) := fun c hc => by
 rcases List.mem_append.1 hc with q | q
 ·exact hs c q
 ·exact hp c q
theorem readV_le (s : List Nat) : readOk s = true → (readV s).2.length ≤ 4000 ∧ 0 < (readV s).1 := fun h => ⟨(readOk_len h).2, (readOk_len h).1⟩
set_option maxHeartbeats 8000000 in
theorem roC (h0 : H) (va : AV) (ba : Nat) (Y : List Kp) (ga : Grows 2 ba h0 va Y.length (kpsC Y)) (hY : Y.length ≤ 800) (nd : (Y.map (·.1)).Nodup) (hv : ∀ p, p ∈ Y → isBy p.2 ∧ p.1.length ≤ 200 ∧ p.2.length ≤ 200) :
  PushC P (.enter 11 [va] h0) (RoPost h0 Y) := by
 have e0 : bytesOf { data := #[] } = [] := rfl
 have hlen := ga.slice.len (P := P) u44a
 have va1 := ga.one
 obtain ⟨h1, h1e⟩ : ∃ h1, h1 = h0.newCells 51 [AV.nilslice] := ⟨_, rfl⟩
 have o1 : Og h0 h1 []:= by rw [h1e]; exact (Og.refl _ _).new _ _
 have x1 : h1.nx = h0.nx + 1:= by rw [h1e]; rfl
 have k1 : RfAt h1 h0.nx [] .nilslice := ⟨by omega, by rw [h1e, cellAt_new, if_pos rfl]; rfl, by rw [h1e, wrAt_new, if_pos rfl], Grows.none⟩
 refine pushC_of_codeW (fn := Tryz.f11) (c := bodyC Tryz.f11) Tryz.func11 rfl ?_
 show codeW P 11 151 none _ _ _ _ _
 refine codeW_root ?_
 repeat' (first | ((with_reducible refine st1 ?_); (conv => whnf); (with_reducible refine ⟨?_⟩)) | ((with_reducible refine retW_intro rfl ?_); (conv => arg 2; whnf)) | ((with_reducible first | refine iB ?_ ?_ | refine gWt ?_ ?_ | refine gWf ?_ ?_) <;> intro hb <;> (try simp only [hb])) | (simp only [B, xB, F, reduceLT, reduceLeDiff, reduceEqDiff, reduceAdd, reduceMul, reduceSub, ↓reduceIte, eq_self, e0, ← h1e]))
 refine st_loop (fun m ds tm h => ∃ i L v txt, RoI h0 va Y m ds tm h i L v txt) Y.length rfl ⟨0, [], .nilslice, [], rfl, rfl, Nat.zero_le _, by simp only [B, xB, F, reduceLT, reduceLeDiff, reduceEqDiff, reduceAdd, reduceMul, reduceSub, ↓reduceIte, eq_self], by simp only [B, xB, F, reduceLT, reduceLeDiff, reduceEqDiff, reduceAdd, reduceMul, reduceSub, ↓reduceIte, eq_self], by simp only [B, xB, F, reduceLT, reduceLeDiff, reduceEqDiff, reduceAdd, reduceMul, reduceSub, ↓reduceIte, eq_self], by simp only [B, xB, F, reduceLT, reduceLeDiff, reduceEqDiff, reduceAdd, reduceMul, reduceSub, ↓reduceIte, eq_self], k1, Nat.le_refl _, fun y hy => (by cases hy), fun c hc => (by cases hc), Nat.le_refl _, fun R _ _ => Trk.start R, o1.ol (Nat.le_refl _) (by simp)⟩ (fun m ds tm h hI => ?_)
 obtain ⟨i, L, v, txt, rfl, rfl, ii, t0, t4, t5, t6, k, ln, ok, bt, tl, tr, ol⟩ := hI
 have gah : Grows 2 ba h va Y.length (kpsC Y) := ga.of_get ol.nx (fun d e => ol.ol d (ga.base e).2)
 by_cases hi : i < Y.length
 ·have di : decide (i < Y.length) = true := decide_eq_true hi
  have lt1 : (i < Y.length) = True:= by simp [hi]
  obtain ⟨⟨ky, p⟩, hx⟩ : ∃ x, Y[i]? = some x := ⟨_, List.getElem?_eq_getElem hi⟩
  have hvp := hv _ (List.mem_of_getElem? hx)
  have gah2 := gah
  obtain ⟨bv, ov, cv, rfl, hbv, -⟩ := gah.slice.place (by omega)
  obtain rfl : ov = 0:= by cases gah; rfl
  obtain ⟨a0, a1⟩ := kps_at gah hx
  simp only at a0 a1 hvp
  have w1 : wrapF .i64 (Int.ofNat i + Int.ofNat 1) = Int.ofNat (i + 1) := i64_add (by omega)
  have step : ∀ R, ValB R → allP R = Y → ∃ y, TrkAt Y i L txt ky p y ∧ (lookB Y i ky → Trk R (i + 1) L (txt ++ p)) ∧ (¬ lookB Y i ky → txt ++ p = textP y.2.1 y.2.2 ∧ Trk R (i + 1) (L ++ [y]) []) := fun R hR e => by
   subst e
   exact trk_step hR.ok hR.nd (tr R hR rfl) hx
  have no : (¬ ky.length = 16 ∨ ¬ ky[0]? = some 115 ∨ ¬ ky[13]? = some 45 ∨ ¬ allHx ((ky.take 13).drop 1)) → RoNo h0 Y (.tuple [.nilptr, .int .i64 (.ofNat 4)]) h := fun hh => ⟨rfl, ol.og, fun ⟨R, hR, e⟩ => by
   obtain ⟨y, ta, -, -⟩ := step R hR e
   rcases hh with q | q | q | q
   ·exact q ta.len
   ·exact q ta.k0
   ·exact q ta.k13
   ·exact q ta.hx⟩
  by_cases p1 : ky.length = 16
  ·have d1 : decide (ky.length = 16) = true := decide_eq_true p1
   obtain ⟨z0, hz0⟩ : ∃ z, ky[0]? = some z := ⟨_, List.getElem?_eq_getElem (by omega)⟩
   obtain ⟨z13, hz13⟩ : ∃ z, ky[13]? = some z := ⟨_, List.getElem?_eq_getElem (by omega)⟩
   have i0 := ix_str hz0 .i64
   have i13 := ix_str hz13 .i64
   by_cases p2 : z0 = 115
   ·have d2 : decide (z0 = 115) = true := decide_eq_true p2
    by_cases p3 : z13 = 45
    ·have d3 : decide (z13 = 45) = true := decide_eq_true p3
     have ckd := cut_lh ky 1 13 (by omega) (by omega)
     repeat' (first | ((with_reducible refine st1 ?_); (conv => whnf); (with_reducible refine ⟨?_⟩)) | ((with_reducible refine retW_intro rfl ?_); (conv => arg 2; whnf)) | ((with_reducible first | refine iB ?_ ?_ | refine gWt ?_ ?_ | refine gWf ?_ ?_) <;> intro hb <;> (try simp only [hb])) | (simp only [B, xB, F, reduceLT, reduceLeDiff, reduceEqDiff, reduceAdd, reduceMul, reduceSub, ↓reduceIte, eq_self, t0, t4, t5, t6, hlen, di, lt1, Nat.zero_add, a0, d1, i0, d2, i13, d3, Bool.not_true, @ex_sl_lh, ckd]))
     refine ((numberC h ((ky.take 13).drop 1) (by simp; omega)).call P).mono P ?_
     rintro u h2 ⟨rfl, rfl⟩
     by_cases p4 : allHx ((ky.take 13).drop 1)
     ·rw [numV_hx p4]
      have hnl := numX_lt _ p4
      have hcl : numX ((ky.take 13).drop 1) < 281474976710656 := by
       have h7 : (16 : Nat) ^ 12 = 281474976710656:= by decide
       rw [← h7]
       exact Nat.lt_of_lt_of_le hnl (Nat.pow_le_pow_right (by omega) (by simp; omega))
      obtain ⟨c, hc⟩ : ∃ c, c = numX ((ky.take 13).drop 1) := ⟨_, rfl⟩
      rw [← hc] at hcl ⊢
      have ad := fun h t x y => b_addS (a := txt) (b := p) (by omega) h t x y
      have btp := vals_by bt hvp.1
      have ltp : (txt ++ p).length ≤ (i + 1) * 200:= by rw [List.length_append]; omega
      repeat' (first | (with_reducible refine stopC [1, 1, 1, 1, 1, 0, 0, 1, 0, 0, 1, 0, 1, 1, 1] ?_) | ((with_reducible refine st1 ?_); (conv => whnf); (with_reducible refine ⟨?_⟩)) | ((with_reducible refine retW_intro rfl ?_); (conv => arg 2; whnf)) | ((with_reducible first | refine iB ?_ ?_ | refine gWt ?_ ?_ | refine gWf ?_ ?_) <;> intro hb <;> (try simp only [hb])) | (simp only [B, xB, F, reduceLT, reduceLeDiff, reduceEqDiff, reduceAdd, reduceMul, reduceSub, ↓reduceIte, eq_self, t0, t4, t5, t6, hlen, Bool.not_true, lt1, Nat.zero_add, a1, ad]))
      refine ⟨roLook _ _ h2 Y i ky (txt ++ p) c h0.nx ba L v _ (by simp only [B, xB, F, reduceLT, reduceLeDiff, reduceEqDiff, reduceAdd, reduceMul, reduceSub, ↓reduceIte, eq_self, t0]) (by simp only [B, xB, F, reduceLT, reduceLeDiff, reduceEqDiff, reduceAdd, reduceMul, reduceSub, ↓reduceIte, eq_self, t4]) (by simp only [B, xB, F, reduceLT, reduceLeDiff, reduceEqDiff, reduceAdd, reduceMul, reduceSub, ↓reduceIte, eq_self]) (by simp only [B, xB, F, reduceLT, reduceLeDiff, reduceEqDiff, reduceAdd, reduceMul, reduceSub, ↓reduceIte, eq_self, t6]) (by simp only [B, xB, F, reduceLT, reduceLeDiff, reduceEqDiff, reduceAdd, reduceMul, reduceSub, ↓reduceIte, eq_self]) (by simp only [B, xB, F, reduceLT, reduceLeDiff, reduceEqDiff, reduceAdd, reduceMul, reduceSub, ↓reduceIte, eq_self]) gah2 (by omega) hi p1 k (by omega) btp (by omega) hcl ?_ ?_ ?_⟩
      ·intro tm2 hl e0' e4 e6 e5
       have f0 : tm2.get 0 = some (AV.slice bv 0 Y.length cv) := e0'.trans (by simp only [B, xB, F, reduceLT, reduceLeDiff, reduceEqDiff, reduceAdd, reduceMul, reduceSub, ↓reduceIte, eq_self, t0])
       have f4 : tm2.get 4 = some (AV.ptr h0.nx 0) := e4.trans (by simp only [B, xB, F, reduceLT, reduceLeDiff, reduceEqDiff, reduceAdd, reduceMul, reduceSub, ↓reduceIte, eq_self, t4])
       have f6 : tm2.get 6 = some (.int .i64 (.ofNat i)) := e6.trans (by simp only [B, xB, F, reduceLT, reduceLeDiff, reduceEqDiff, reduceAdd, reduceMul, reduceSub, ↓reduceIte, eq_self, t6])
       have f5 : tm2.get 5 = some (.str (txt ++ p)) := e5.trans (by simp only [B, xB, F, reduceLT, reduceLeDiff, reduceEqDiff, reduceAdd, reduceMul, reduceSub, ↓reduceIte, eq_self])
       repeat' (first | ((with_reducible refine st1 ?_); (conv => whnf); (with_reducible refine ⟨?_⟩)) | ((with_reducible refine retW_intro rfl ?_); (conv => arg 2; whnf)) | ((with_reducible first | refine iB ?_ ?_ | refine gWt ?_ ?_ | refine gWf ?_ ?_) <;> intro hb <;> (try simp only [hb])) | (simp only [B, xB, F, reduceLT, reduceLeDiff, reduceEqDiff, reduceAdd, reduceMul, reduceSub, ↓reduceIte, eq_self, f6, w1]))
       exact ⟨Y.length - (i + 1), by omega, i + 1, L, v, txt ++ p, rfl, rfl, by omega, by simp only [B, xB, F, reduceLT, reduceLeDiff, reduceEqDiff, reduceAdd, reduceMul, reduceSub, ↓reduceIte, eq_self, f0], by simp only [B, xB, F, reduceLT, reduceLeDiff, reduceEqDiff, reduceAdd, reduceMul, reduceSub, ↓reduceIte, eq_self, f4], by simp only [B, xB, F, reduceLT, reduceLeDiff, reduceEqDiff, reduceAdd, reduceMul, reduceSub, ↓reduceIte, eq_self, f5], by simp only [B, xB, F, reduceLT, reduceLeDiff, reduceEqDiff, reduceAdd, reduceMul, reduceSub, ↓reduceIte, eq_self], k, by omega, ok, btp, ltp, fun R hR e => by
        obtain ⟨y, -, s1, -⟩ := step R hR e
        exact s1 hl, ol⟩
      ·intro tm2 h3 hl o3 e2 e3 hno
       repeat' (first | ((with_reducible refine st1 ?_); (conv => whnf); (with_reducible refine ⟨?_⟩)) | ((with_reducible refine retW_intro rfl ?_); (conv => arg 2; whnf)) | ((with_reducible first | refine iB ?_ ?_ | refine gWt ?_ ?_ | refine gWf ?_ ?_) <;> intro hb <;> (try simp only [hb])) | (simp only [B, xB, F, reduceLT, reduceLeDiff, reduceEqDiff, reduceAdd, reduceMul, reduceSub, ↓reduceIte, eq_self, e2, e3]))
       refine .inr ⟨rfl, (ol.t o3).og, fun ⟨R, hR, e⟩ => hno ?_⟩
       obtain ⟨y, ta, -, s2⟩ := step R hR e
       obtain ⟨s2, -⟩ := s2 hl
       have := read_row ta.ok
       unfold rowT at this
       rw [s2, hc, ta.num]
       exact ⟨this.2, ta.ok.2.1⟩
      ·intro tm2 h3 v2 hl r1 r2 r3 r4 e0' e4 e6 f5
       have f0 : tm2.get 0 = some (AV.slice bv 0 Y.length cv) := e0'.trans (by simp only [B, xB, F, reduceLT, reduceLeDiff, reduceEqDiff, reduceAdd, reduceMul, reduceSub, ↓reduceIte, eq_self, t0])
       have f4 : tm2.get 4 = some (AV.ptr h0.nx 0) := e4.trans (by simp only [B, xB, F, reduceLT, reduceLeDiff, reduceEqDiff, reduceAdd, reduceMul, reduceSub, ↓reduceIte, eq_self, t4])
       have f6 : tm2.get 6 = some (.int .i64 (.ofNat i)) := e6.trans (by simp only [B, xB, F, reduceLT, reduceLeDiff, reduceEqDiff, reduceAdd, reduceMul, reduceSub, ↓reduceIte, eq_self, t6])
       repeat' (first | ((with_reducible refine st1 ?_); (conv => whnf); (with_reducible refine ⟨?_⟩)) | ((with_reducible refine retW_intro rfl ?_); (conv => arg 2; whnf)) | ((with_reducible first | refine iB ?_ ?_ | refine gWt ?_ ?_ | refine gWf ?_ ?_) <;> intro hb <;> (try simp only [hb])) | (simp only [B, xB, F, reduceLT, reduceLeDiff, reduceEqDiff, reduceAdd, reduceMul, reduceSub, ↓reduceIte, eq_self, f6, w1]))
       refine ⟨Y.length - (i + 1), by omega, i + 1, L ++ [(c, readV (txt ++ p))], v2, [], rfl, rfl, by omega, by simp only [B, xB, F, reduceLT, reduceLeDiff, reduceEqDiff, reduceAdd, reduceMul, reduceSub, ↓reduceIte, eq_self, f0], by simp only [B, xB, F, reduceLT, reduceLeDiff, reduceEqDiff, reduceAdd, reduceMul, reduceSub, ↓reduceIte, eq_self, f4], by simp only [B, xB, F, reduceLT, reduceLeDiff, reduceEqDiff, reduceAdd, reduceMul, reduceSub, ↓reduceIte, eq_self, f5], by simp only [B, xB, F, reduceLT, reduceLeDiff, reduceEqDiff, reduceAdd, reduceMul, reduceSub, ↓reduceIte, eq_self], r3, by rw [List.length_append, List.length_singleton]; omega, fun y hy => ?_, fun c hc => (by cases hc), Nat.zero_le _, fun R hR e => ?_, ol.t r4⟩
       ·rw [List.mem_append, List.mem_singleton] at hy
        rcases hy with hy | rfl
        ·exact ok y hy
        ·have := readV_le _ r1
         exact ⟨⟨hcl, readV_lt btp (by omega), this.1⟩, r2, this.2⟩
       ·obtain ⟨y, ta, -, s2⟩ := step R hR e
        obtain ⟨s2, s3⟩ := s2 hl
        have := read_row ta.ok
        unfold rowT at this
        rw [s2, hc, ta.num, this.1]
        exact s3
     ·rw [numV_no p4]
      repeat' (first | ((with_reducible refine st1 ?_); (conv => whnf); (with_reducible refine ⟨?_⟩)) | ((with_reducible refine retW_intro rfl ?_); (conv => arg 2; whnf)) | ((with_reducible first | refine iB ?_ ?_ | refine gWt ?_ ?_ | refine gWf ?_ ?_) <;> intro hb <;> (try simp only [hb])) | (simp only [B, xB, F, reduceLT, reduceLeDiff, reduceEqDiff, reduceAdd, reduceMul, reduceSub, ↓reduceIte, eq_self, Bool.not_false]))
      exact .inr (no (.inr (.inr (.inr p4))))
    ·have d3 : decide (z13 = 45) = false := decide_eq_false p3
     repeat' (first | ((with_reducible refine st1 ?_); (conv => whnf); (with_reducible refine ⟨?_⟩)) | ((with_reducible refine retW_intro rfl ?_); (conv => arg 2; whnf)) | ((with_reducible first | refine iB ?_ ?_ | refine gWt ?_ ?_ | refine gWf ?_ ?_) <;> intro hb <;> (try simp only [hb])) | (simp only [B, xB, F, reduceLT, reduceLeDiff, reduceEqDiff, reduceAdd, reduceMul, reduceSub, ↓reduceIte, eq_self, t0, t4, t5, t6, hlen, di, lt1, Nat.zero_add, a0, d1, i0, d2, i13, d3, Bool.not_true, Bool.not_false]))
     exact .inr (no (.inr (.inr (.inl (by rw [hz13]; exact fun e => p3 (Option.some.inj e))))))
   ·have d2 : decide (z0 = 115) = false := decide_eq_false p2
    repeat' (first | ((with_reducible refine st1 ?_); (conv => whnf); (with_reducible refine ⟨?_⟩)) | ((with_reducible refine retW_intro rfl ?_); (conv => arg 2; whnf)) | ((with_reducible first | refine iB ?_ ?_ | refine gWt ?_ ?_ | refine gWf ?_ ?_) <;> intro hb <;> (try simp only [hb])) | (simp only [B, xB, F, reduceLT, reduceLeDiff, reduceEqDiff, reduceAdd, reduceMul, reduceSub, ↓reduceIte, eq_self, t0, t4, t5, t6, hlen, di, lt1, Nat.zero_add, a0, d1, i0, d2, Bool.not_true, Bool.not_false]))
    exact .inr (no (.inr (.inl (by rw [hz0]; exact fun e => p2 (Option.some.inj e)))))
  ·have d1 : decide (ky.length = 16) = false := decide_eq_false p1
   repeat' (first | ((with_reducible refine st1 ?_); (conv => whnf); (with_reducible refine ⟨?_⟩)) | ((with_reducible refine retW_intro rfl ?_); (conv => arg 2; whnf)) | ((with_reducible first | refine iB ?_ ?_ | refine gWt ?_ ?_ | refine gWf ?_ ?_) <;> intro hb <;> (try simp only [hb])) | (simp only [B, xB, F, reduceLT, reduceLeDiff, reduceEqDiff, reduceAdd, reduceMul, reduceSub, ↓reduceIte, eq_self, t0, t4, t5, t6, hlen, di, lt1, Nat.zero_add, a0, d1, Bool.not_false]))
   exact .inr (no (.inl p1))
 ·have di : decide (i < Y.length) = false := decide_eq_false hi
  obtain rfl : i = Y.length:= by omega
  repeat' (first | (with_reducible refine stopC [1, 1, 1, 1] ?_) | ((with_reducible refine st1 ?_); (conv => whnf); (with_reducible refine ⟨?_⟩)) | ((with_reducible refine retW_intro rfl ?_); (conv => arg 2; whnf)) | ((with_reducible first | refine iB ?_ ?_ | refine gWt ?_ ?_ | refine gWf ?_ ?_) <;> intro hb <;> (try simp only [hb])) | (simp only [B, xB, F, reduceLT, reduceLeDiff, reduceEqDiff, reduceAdd, reduceMul, reduceSub, ↓reduceIte, eq_self, t0, t4, t5, t6, hlen, di]))
  exact ⟨roTail h0 h _ va ba Y L v gah hY (by simp only [B, xB, F, reduceLT, reduceLeDiff, reduceEqDiff, reduceAdd, reduceMul, reduceSub, ↓reduceIte, eq_self, t0]) (by simp only [B, xB, F, reduceLT, reduceLeDiff, reduceEqDiff, reduceAdd, reduceMul, reduceSub, ↓reduceIte, eq_self, t4]) k ln ok nd (fun R hR e => by
   have := tr R hR e
   subst e
   exact this.done) ol⟩
end
end Go.Proofs.YtllmfnedkhiomaaGreatDoor.S

namespace Go.AX
noncomputable section
open Go.RowKit
def absHm (w : World) (k r : Nat) (es : List (AV × AV × Nat)) (clock : Nat) : H := { absHg w k with t := (absHg w k).t.set r (some (.romap es clock)) }
theorem absHm_at (w : World) (k r : Nat) (es : List (AV × AV × Nat)) (clock : Nat) : (absHm w k r es clock).t.get r = some (.romap es clock) := by
 show ((absHg w k).t.set r _).get r = _
 rw [T.get_set, if_pos rfl]
theorem absHm_ne {w : World} {k r : Nat} {es : List (AV × AV × Nat)} {clock b : Nat} (h : b ≠ r) : (absHm w k r es clock).t.get b = (absHg w k).t.get b := by
 show ((absHg w k).t.set r _).get b = _
 rw [T.get_set, if_neg h]
theorem absHm_rel (w : World) {k r clock : Nat} {es : List (AV × AV × Nat)} {ces : Array MapEntry} (hk : k ≤ w.heap.size) (hr : w.heap[r]? = some (.map ces clock)) (he : All2 (EntR (absPhi w.heap.size)) es ces.toList) :
  HR ⟨w.heap.size, fun _ => none⟩ (absPhi w.heap.size) (absHm w k r es clock) w := by
 have a := absHg_rel w hk
 have hlt : r < w.heap.size := (Array.getElem?_eq_some_iff.1 hr).1
 refine ⟨fun b o hb hn => ?_, fun b o b' o' L L' hb hb' h1 h2 e => ?_, fun b hb => a.lt b hb, fun b hb => absurd rfl hb, fun g hg => a.glob g hg⟩
 ·by_cases q : b = r
  ·subst q
   rw [absHm_at] at hb; cases hb
   exact ⟨⟨b, 0, 0⟩, by unfold absPhi; rw [if_pos hlt], ces, hr, he⟩
  ·rw [absHm_ne q] at hb
   exact a.obj b o hb hn
 ·unfold absPhi at h1 h2
  split at h1
  ·split at h2
   ·cases h1; cases h2; exact e
   ·cases h2
  ·cases h1
theorem bytesOf_inj {a b : ByteArray} (h : bytesOf a = bytesOf b) : a = b := by
 unfold bytesOf at h
 have : a.data.toList = b.data.toList := (List.map_inj_right (fun x y e => UInt8.toNat_inj.1 e)).1 h
 cases a; cases b
 simp at this
 rw [this]
variable {P : Program} {K : Type} {enc : TypeId × Value → K} {w : World}
theorem trod_text {t n : Nat} (ht : P.underlying t = some .string) {v : Value} {x : DataW K × List MemPlace} (hf : v.formed P t = true) (h : DataW.trod enc P w 0 (fun _ => true) true n t v.cells.toList = some x) : ∃ s : ByteArray, v = .string s ∧ s.size ≤ maxLen := by
 cases n with
 | zero => simp [DataW.trod] at h
 | succ n =>
  cases v with
  | agg cs => unfold Value.formed at hf; rw [ht] at hf; cases hf
  | string s =>
   refine ⟨s, rfl, ?_⟩
   rw [DataW.trod_step] at h
   unfold DataW.trodStep at h
   simp only [ht, Value.cells] at h
   split at h
   ·assumption
   ·cases h
  | _ =>
   exfalso
   rw [DataW.trod_step] at h
   unfold DataW.trodStep at h
   simp [ht, Value.cells] at h
theorem bytesOf_lt (s : ByteArray) : ∀ c, c ∈ bytesOf s → c < 256 := fun c hc => by
 unfold bytesOf at hc
 obtain ⟨x, _, rfl⟩ := List.mem_map.1 hc
 exact x.toNat_lt
theorem rows_argM {t k e : TypeId} (ht : P.underlying t = some (.map k e)) (hkt : P.underlying k = some .string) (het : P.underlying e = some .string) {v : Value} {d : DataW K} {ps : List MemPlace} (hd : DataW.Trod enc P w 0 (fun _ => true) true t v d ps) (hv : ∃ a, v = .map a) :
  (v = .map none) ∨ ∃ r es clock ces, ∃ X : List (List Nat × List Nat), v = .map (some r) ∧ w.heap[r]? = some (.map ces clock) ∧ All2 (EntR (absPhi w.heap.size)) es ces.toList ∧ es.map entP = (X.map fun p : List Nat × List Nat => (p.1, AV.str p.2)).map (encP AV.str) ∧ (es.map (·.2.2)).Nodup ∧ (∀ x, x ∈ es → x.2.2 < clock) ∧ (X.map (·.1)).Nodup ∧ (∀ p, p ∈ X → (∀ c, c ∈ p.1 → c < 256) ∧ ∀ c, c ∈ p.2 → c < 256) ∧ X.length ≤ maxLen := by
 obtain ⟨a, rfl⟩ := hv
 obtain ⟨fuel, hf⟩ := hd
 rcases Go.WideElems.open_map ht hf with ⟨h1, -⟩ | ⟨b, ces, clock, n, -, h1, h2, -, F, -⟩
 ·simp [Value.cells] at h1
  exact .inl (by rw [h1])
 ·simp [Value.cells] at h1
  subst h1
  obtain ⟨hb, hn, hk⟩ := (Go.MapKept.stamped_iff ces clock).1 F.stamped
  have hent : ∀ x, x ∈ ces.toList → ∃ s u : ByteArray, x.key = .string s ∧ x.val = .string u := fun x hx => by
   obtain ⟨y, hy⟩ := F.reads x hx
   have h3 := Go.WideElems.rd_key hy
   have hkey : ∃ s : ByteArray, x.key = .string s := by
    cases hx : x.key with
    | string s => exact ⟨s, rfl⟩
    | _ => exfalso; simp [keyOf, hkt, mapKey, hx] at h3
   unfold Go.WideElems.rd at hy
   simp only [Option.bind_eq_some_iff, Option.map_eq_some_iff] at hy
   obtain ⟨key, -, z, hz, -⟩ := hy
   unfold Go.WideElems.elemAt at hz
   split at hz
   ·rename_i hfm
    obtain ⟨u, hu, -⟩ := trod_text het hfm hz
    obtain ⟨s, hs⟩ := hkey
    exact ⟨s, u, hs, hu⟩
   ·cases hz
  have key : ∀ l : List MapEntry, (∀ x, x ∈ l → ∃ s u : ByteArray, x.key = .string s ∧ x.val = .string u) → ∃ (es : List (AV × AV × Nat)) (X : List (List Nat × List Nat)), All2 (EntR (absPhi w.heap.size)) es l ∧ es.map entP = (X.map fun p : List Nat × List Nat => (p.1, AV.str p.2)).map (encP AV.str) ∧ es.map (·.2.2) = l.map (·.born) ∧ (∀ p, p ∈ X → (∀ c, c ∈ p.1 → c < 256) ∧ ∀ c, c ∈ p.2 → c < 256) ∧ (∀ p, p ∈ X → ∃ x s, x ∈ l ∧ x.key = .string s ∧ bytesOf s = p.1) ∧ (l.Pairwise (fun x y => x.key ≠ y.key) → (X.map (·.1)).Nodup) ∧ X.length = l.length := by
   intro l
   induction l with
   | nil => intro _; exact ⟨[], [], by simp [All2], rfl, rfl, fun p hp => (by cases hp), fun p hp => (by cases hp), fun _ => List.nodup_nil, rfl⟩
   | cons x l ih =>
    intro hl
    obtain ⟨es, X, g1, g2, g3, g4, g5, g6, g7⟩ := ih fun y hy => hl y (by simp [hy])
    obtain ⟨s, u, hs, hu⟩ := hl x (by simp)
    refine ⟨(.str (bytesOf s), .str (bytesOf u), x.born) :: es, (bytesOf s, bytesOf u) :: X, All2.cons_left.2 ⟨x, l, rfl, ⟨by rw [hs]; simp, by rw [hu]; simp, rfl⟩, g1⟩, by rw [List.map_cons, List.map_cons, List.map_cons, g2]; rfl, by rw [List.map_cons, List.map_cons, g3], fun p hp => ?_, fun p hp => ?_, fun hp => ?_, by simp [g7]⟩
    ·rcases List.mem_cons.1 hp with rfl | hp
     ·exact ⟨bytesOf_lt s, bytesOf_lt u⟩
     ·exact g4 p hp
    ·rcases List.mem_cons.1 hp with rfl | hp
     ·exact ⟨x, s, by simp, hs, rfl⟩
     ·obtain ⟨y, s', q1, q2, q3⟩ := g5 p hp
      exact ⟨y, s', by simp [q1], q2, q3⟩
    ·rw [List.pairwise_cons] at hp
     rw [List.map_cons, List.nodup_cons]
     refine ⟨fun hm => ?_, g6 hp.2⟩
     obtain ⟨p, hp1, hp2⟩ := List.mem_map.1 hm
     obtain ⟨y, s', q1, q2, q3⟩ := g5 p hp1
     have : s = s' := bytesOf_inj (by rw [q3]; exact hp2.symm)
     exact hp.1 y q1 (by rw [hs, q2, this])
  obtain ⟨es, X, g1, g2, g3, g4, -, g6, g7⟩ := key ces.toList hent
  refine .inr ⟨b, es, clock, ces, X, rfl, h2, g1, g2, by rw [g3]; exact hn, fun x hx => ?_, g6 hk, g4, by rw [g7]; simpa using F.size⟩
  have : x.2.2 ∈ es.map (·.2.2) := List.mem_map_of_mem hx
  rw [g3] at this
  obtain ⟨y, hy, e⟩ := List.mem_map.1 this
  rw [← e]; exact hb y hy
end
end Go.AX

namespace Go.Proofs.YtllmfnedkhiomaaGreatDoor.S
open Go Go.AX
noncomputable section
set_option maxRecDepth 100000
theorem mk25o (tm : T AV) (h : H) : execA P tm h (.makeMap 25 none) = .val (.map h.nx) (h.alloc (.map [] 0)):= by simp only [execA, u31a, evalO]
theorem sort_same {ks ys : List (List Nat)} (hp : ks.Perm ys) : sortS ks = sortS ys := by
 refine List.Perm.eq_of_pairwise (le := leN) (fun a b _ _ h1 h2 => List.le_antisymm ((leN_le a b).1 h1) ((leN_le b a).1 h2)) (sortS_sorted ks) (sortS_sorted ys) (((sortS_perm ks).trans hp).trans (sortS_perm ys).symm)
theorem rising_sorted {V X C : List Kp} (hV : V.Perm X) (hX : X.Perm C) (nd : (C.map (·.1)).Nodup) : (sortS (V.map (·.1))).map (fun k => (k, valX k X)) = sortedY C := by
 unfold sortedY
 rw [sort_same ((hV.trans hX).map _)]
 refine List.map_congr_left fun k hk => ?_
 have hk : k ∈ C.map (·.1) := (sortS_perm _).mem_iff.1 hk
 obtain ⟨p, hp, rfl⟩ := List.mem_map.1 hk
 have ndX : (X.map (·.1)).Nodup := (hX.map _).nodup_iff.2 nd
 rw [valX_mem nd hp, valX_mem ndX (hX.mem_iff.2 hp)]
theorem sortedY_len (C : List Kp) : (sortedY C).length = C.length:= by unfold sortedY; rw [List.length_map, sortS_len, List.length_map]
theorem sortedY_keys (C : List Kp) (nd : (C.map (·.1)).Nodup) : ((sortedY C).map (·.1)).Nodup := ((sorted_perm nd).map _).nodup_iff.2 nd
theorem opTail (h : H) (tm : T AV) (gl : Gl h) (rc : Nat) (C : List Kp) (ox : OkX C) (hz : C.length ≤ 100) (mp : MapK encS h rc (mS C)) (t3 : tm.get 3 = some (.map rc)) :
  codeW P 4 81 none (codeI (bodyC Tryz.f4) [1, 1, 1]) [] tm h (retK P Tryz.f4 fun v _ => v = .bool true) := by
 have rest : ∀ (h1 : H), Og h h1 [] → ∀ (u2 : AV) (h2 : H), (Og h1 h2 [] ∧ ∃ V : List Kp, V.Perm C ∧ Grows 2 h1.nx h2 u2 C.length (kpsC ((sortS (V.map (·.1))).map fun k => (k, valX k C)))) → PushC P (.enter 11 [u2] h2) (RoPost h2 (sortedY C)) := by
  rintro h1 o1 u2 h2 ⟨o2, V, hV, g2⟩
  rw [rising_sorted hV (List.Perm.refl _) ox.nd, ← sortedY_len C] at g2
  exact roC h2 u2 h1.nx (sortedY C) g2 (by rw [sortedY_len]; omega) (sortedY_keys C ox.nd) (fun p hp => by
   have := ox.ok p ((sorted_perm ox.nd).mem_iff.1 hp)
   exact ⟨this.2.1, this.2.2⟩)
 repeat' (first | ((with_reducible refine st1 ?_); (conv => whnf); (with_reducible refine ⟨?_⟩)) | ((with_reducible refine retW_intro rfl ?_); (conv => arg 2; whnf)) | ((with_reducible first | refine iB ?_ ?_ | refine gWt ?_ ?_ | refine gWf ?_ ?_) <;> intro hb <;> (try simp only [hb])) | (simp only [B, xB, F, reduceLT, reduceLeDiff, reduceEqDiff, reduceAdd, reduceMul, reduceSub, ↓reduceIte, eq_self, t3]))
 refine ((openC h gl rc C ox mp).call P).mono P ?_
 rintro u h1 (⟨b, rb, Bk, oy⟩ | on)
 ·obtain ⟨rfl, bk, val, pm, oo, ge⟩ := oy
  have mp1 := mp.keep oo.1 (by simp)
  repeat' (first | ((with_reducible refine st1 ?_); (conv => whnf); (with_reducible refine ⟨?_⟩)) | ((with_reducible refine retW_intro rfl ?_); (conv => arg 2; whnf)) | ((with_reducible first | refine iB ?_ ?_ | refine gWt ?_ ?_ | refine gWf ?_ ?_) <;> intro hb <;> (try simp only [hb])) | (simp only [B, xB, F, reduceLT, reduceLeDiff, reduceEqDiff, reduceAdd, reduceMul, reduceSub, ↓reduceIte, eq_self, t3]))
  refine ((risingC h1 rc C mp1 (by omega)).call P).mono P ?_
  rintro u2 h2 hr2
  have o2 := hr2.1
  repeat' (first | ((with_reducible refine st1 ?_); (conv => whnf); (with_reducible refine ⟨?_⟩)) | ((with_reducible refine retW_intro rfl ?_); (conv => arg 2; whnf)) | ((with_reducible first | refine iB ?_ ?_ | refine gWt ?_ ?_ | refine gWf ?_ ?_) <;> intro hb <;> (try simp only [hb])) | (simp only [B, xB, F, reduceLT, reduceLeDiff, reduceEqDiff, reduceAdd, reduceMul, reduceSub, ↓reduceIte, eq_self]))
  refine ((rest h1 oo u2 h2 hr2).call P).mono P ?_
  rintro u3 h3 (⟨b2, L, v, ry⟩ | rn)
  ·obtain ⟨rfl, rk, rval, req, o3, rge⟩ := ry
   have o13 := o2.t o3
   have bk3 := bk.keep o13 (by simp) (by simp)
   have hPL : (allP Bk).Perm (allP L) := pm.trans (by rw [req]; exact (sorted_perm ox.nd).symm)
   have hBL : Bk.Perm L := good_one val pm rval (by rw [req]; exact sorted_perm ox.nd)
   have okB : ∀ y, y ∈ Bk → OkRw y := fun y hy => (val.ok y hy).1
   have okL : ∀ y, y ∈ L → OkRw y := fun y hy => (rval.ok y hy).1
   have l64 := rval.len
   have hal := allP_len okL
   repeat' (first | ((with_reducible refine st1 ?_); (conv => whnf); (with_reducible refine ⟨?_⟩)) | ((with_reducible refine st_dp ord4_0 ?_ rfl rfl ?_); exact rfl; (conv => arg 4; whnf); (conv => arg 3; whnf)) | ((with_reducible refine retW_intro rfl ?_); (conv => arg 2; whnf)) | ((with_reducible first | refine iB ?_ ?_ | refine gWt ?_ ?_ | refine gWf ?_ ?_ | refine gXt ?_ ?_ | refine gXf ?_ ?_) <;> intro hb <;> (try simp only [hb])) | ((with_reducible show drawP _ _ _ _ _ _ _ _ _); first | ((with_reducible apply kP_rd); exact rfl; exact rfl) | ((with_reducible apply kP_rg); exact rfl; exact rfl; exact rfl) | ((with_reducible apply kP_cv); exact rfl; exact rfl; kernel_rfl) | ((with_reducible apply kP_al); exact rfl; exact rfl; exact rfl) | ((with_reducible apply kP_fl); exact rfl; exact rfl; exact rfl) | ((with_reducible apply kP_ex); exact rfl; exact rfl; kernel_rfl; exact rfl) | ((with_reducible apply kP_eg); exact rfl; exact rfl; kernel_rfl; exact rfl) | ((with_reducible refine kP_nl ?_ ?_))) | ((with_reducible show eOk _ _ _ _ _ _); first | (exact eok_nil) | (refine ke_rd ?_ ?_ ?_; exact rfl) | (apply ke_rg; exact rfl; exact rfl) | (refine ke_cv ?_ ?_ ?_ ?_; exact rfl; kernel_rfl) | (apply ke_fl; exact rfl) | (apply ke_al; exact rfl; exact rfl)) | ((with_reducible refine freshIs_new ?_); kernel_rfl) | (simp only [B, xB, F, reduceLT, reduceLeDiff, reduceEqDiff, reduceAdd, reduceMul, reduceSub, ↓reduceIte, eq_self]))
   refine ((pairsC h3 b rb Bk bk3 (gl.keep (oo.t o13) (by simp)) okB).call P).mono P ?_
   rintro _ h4 ⟨ro, V, rfl, o4, -, hV, mp4⟩
   have hVL : (allP V).Perm C := (allP_perm hV).trans pm
   have hnd : ((allP V).map (·.1)).Nodup := (hVL.map (·.1)).nodup_iff.2 ox.nd
   have mp4 : MapK encS h4 ro (mS (allP V)) := by
    have := outF_mS (allP V) [] (by simpa using hnd)
    rw [List.nil_append] at this
    rw [← this]; exact mp4
   have hlen : (allP V).length = (allP L).length:= by rw [hVL.length_eq, req, sortedY_len]
   repeat' (first | ((with_reducible refine st1 ?_); (conv => whnf); (with_reducible refine ⟨?_⟩)) | ((with_reducible refine st_dp ord4_0 ?_ rfl rfl ?_); exact rfl; (conv => arg 4; whnf); (conv => arg 3; whnf)) | ((with_reducible refine retW_intro rfl ?_); (conv => arg 2; whnf)) | ((with_reducible first | refine iB ?_ ?_ | refine gWt ?_ ?_ | refine gWf ?_ ?_ | refine gXt ?_ ?_ | refine gXf ?_ ?_) <;> intro hb <;> (try simp only [hb])) | ((with_reducible show drawP _ _ _ _ _ _ _ _ _); first | ((with_reducible apply kP_rd); exact rfl; exact rfl) | ((with_reducible apply kP_rg); exact rfl; exact rfl; exact rfl) | ((with_reducible apply kP_cv); exact rfl; exact rfl; kernel_rfl) | ((with_reducible apply kP_al); exact rfl; exact rfl; exact rfl) | ((with_reducible apply kP_fl); exact rfl; exact rfl; exact rfl) | ((with_reducible apply kP_ex); exact rfl; exact rfl; kernel_rfl; exact rfl) | ((with_reducible apply kP_eg); exact rfl; exact rfl; kernel_rfl; exact rfl) | ((with_reducible refine kP_nl ?_ ?_))) | ((with_reducible show eOk _ _ _ _ _ _); first | (exact eok_nil) | (refine ke_rd ?_ ?_ ?_; exact rfl) | (apply ke_rg; exact rfl; exact rfl) | (refine ke_cv ?_ ?_ ?_ ?_; exact rfl; kernel_rfl) | (apply ke_fl; exact rfl) | (apply ke_al; exact rfl; exact rfl)) | ((with_reducible refine freshIs_new ?_); kernel_rfl) | (simp only [B, xB, F, reduceLT, reduceLeDiff, reduceEqDiff, reduceAdd, reduceMul, reduceSub, ↓reduceIte, eq_self]))
   refine ((risingC h4 ro (allP V) mp4 (by omega)).call P).mono P ?_
   rintro u5 h5 ⟨o5, V2, hV2, g5⟩
   rw [rising_sorted hV2 hVL ox.nd, ← req, hlen] at g5
   have g5o := g5.one
   have o45 := o4.t o5
   have rk5 := rk.keep o45 (by simp)
   repeat' (first | ((with_reducible refine st1 ?_); (conv => whnf); (with_reducible refine ⟨?_⟩)) | ((with_reducible refine st_dp ord4_0 ?_ rfl rfl ?_); exact rfl; (conv => arg 4; whnf); (conv => arg 3; whnf)) | ((with_reducible refine retW_intro rfl ?_); (conv => arg 2; whnf)) | ((with_reducible first | refine iB ?_ ?_ | refine gWt ?_ ?_ | refine gWf ?_ ?_ | refine gXt ?_ ?_ | refine gXf ?_ ?_) <;> intro hb <;> (try simp only [hb])) | ((with_reducible show drawP _ _ _ _ _ _ _ _ _); first | ((with_reducible apply kP_rd); exact rfl; exact rfl) | ((with_reducible apply kP_rg); exact rfl; exact rfl; exact rfl) | ((with_reducible apply kP_cv); exact rfl; exact rfl; kernel_rfl) | ((with_reducible apply kP_al); exact rfl; exact rfl; exact rfl) | ((with_reducible apply kP_fl); exact rfl; exact rfl; exact rfl) | ((with_reducible apply kP_ex); exact rfl; exact rfl; kernel_rfl; exact rfl) | ((with_reducible apply kP_eg); exact rfl; exact rfl; kernel_rfl; exact rfl) | ((with_reducible refine kP_nl ?_ ?_))) | ((with_reducible show eOk _ _ _ _ _ _); first | (exact eok_nil) | (refine ke_rd ?_ ?_ ?_; exact rfl) | (apply ke_rg; exact rfl; exact rfl) | (refine ke_cv ?_ ?_ ?_ ?_; exact rfl; kernel_rfl) | (apply ke_fl; exact rfl) | (apply ke_al; exact rfl; exact rfl)) | ((with_reducible refine freshIs_new ?_); kernel_rfl) | (simp only [B, xB, F, reduceLT, reduceLeDiff, reduceEqDiff, reduceAdd, reduceMul, reduceSub, ↓reduceIte, eq_self, g5o]))
   refine ((rPairsC h5 b2 L v rk5 (by omega) okL).call P).mono P ?_
   rintro w h6 ⟨o6, g6⟩
   have g6o := g6.one
   have g56 : Grows 2 h4.nx h6 u5 (allP L).length (kpsC (allP L)) := g5.of_get o6.1.1 (fun d e => o6.1.2 d (g5.base e).2 (by simp))
   repeat' (first | ((with_reducible refine st1 ?_); (conv => whnf); (with_reducible refine ⟨?_⟩)) | ((with_reducible refine st_dp ord4_0 ?_ rfl rfl ?_); exact rfl; (conv => arg 4; whnf); (conv => arg 3; whnf)) | ((with_reducible refine retW_intro rfl ?_); (conv => arg 2; whnf)) | ((with_reducible first | refine iB ?_ ?_ | refine gWt ?_ ?_ | refine gWf ?_ ?_ | refine gXt ?_ ?_ | refine gXf ?_ ?_) <;> intro hb <;> (try simp only [hb])) | ((with_reducible show drawP _ _ _ _ _ _ _ _ _); first | ((with_reducible apply kP_rd); exact rfl; exact rfl) | ((with_reducible apply kP_rg); exact rfl; exact rfl; exact rfl) | ((with_reducible apply kP_cv); exact rfl; exact rfl; kernel_rfl) | ((with_reducible apply kP_al); exact rfl; exact rfl; exact rfl) | ((with_reducible apply kP_fl); exact rfl; exact rfl; exact rfl) | ((with_reducible apply kP_ex); exact rfl; exact rfl; kernel_rfl; exact rfl) | ((with_reducible apply kP_eg); exact rfl; exact rfl; kernel_rfl; exact rfl) | ((with_reducible refine kP_nl ?_ ?_))) | ((with_reducible show eOk _ _ _ _ _ _); first | (exact eok_nil) | (refine ke_rd ?_ ?_ ?_; exact rfl) | (apply ke_rg; exact rfl; exact rfl) | (refine ke_cv ?_ ?_ ?_ ?_; exact rfl; kernel_rfl) | (apply ke_fl; exact rfl) | (apply ke_al; exact rfl; exact rfl)) | ((with_reducible refine freshIs_new ?_); kernel_rfl) | (simp only [B, xB, F, reduceLT, reduceLeDiff, reduceEqDiff, reduceAdd, reduceMul, reduceSub, ↓reduceIte, eq_self, g5o, g6o]))
   refine ((sameC h6 u5 w (allP L) _ _ g56 g6 (by omega)).call P).mono P ?_
   rintro _ h7 ⟨rfl, o7⟩
   have o37 := (o45.t o6).t o7
   have bk7 := bk3.keep o37 (by simp) (by simp)
   have rk7 := rk.keep o37 (by simp)
   have c07 := rk7.c0
   have hlv := rk7.gr.slice.len (P := P) u39a
   have v1 := rk7.gr.one
   repeat' (first | ((with_reducible refine st1 ?_); (conv => whnf); (with_reducible refine ⟨?_⟩)) | ((with_reducible refine st_dp ord4_0 ?_ rfl rfl ?_); exact rfl; (conv => arg 4; whnf); (conv => arg 3; whnf)) | ((with_reducible refine retW_intro rfl ?_); (conv => arg 2; whnf)) | ((with_reducible first | refine iB ?_ ?_ | refine gWt ?_ ?_ | refine gWf ?_ ?_ | refine gXt ?_ ?_ | refine gXf ?_ ?_) <;> intro hb <;> (try simp only [hb])) | ((with_reducible show drawP _ _ _ _ _ _ _ _ _); first | ((with_reducible apply kP_rd); exact rfl; exact rfl) | ((with_reducible apply kP_rg); exact rfl; exact rfl; exact rfl) | ((with_reducible apply kP_cv); exact rfl; exact rfl; kernel_rfl) | ((with_reducible apply kP_al); exact rfl; exact rfl; exact rfl) | ((with_reducible apply kP_fl); exact rfl; exact rfl; exact rfl) | ((with_reducible apply kP_ex); exact rfl; exact rfl; kernel_rfl; exact rfl) | ((with_reducible apply kP_eg); exact rfl; exact rfl; kernel_rfl; exact rfl) | ((with_reducible refine kP_nl ?_ ?_))) | ((with_reducible show eOk _ _ _ _ _ _); first | (exact eok_nil) | (refine ke_rd ?_ ?_ ?_; exact rfl) | (apply ke_rg; exact rfl; exact rfl) | (refine ke_cv ?_ ?_ ?_ ?_; exact rfl; kernel_rfl) | (apply ke_fl; exact rfl) | (apply ke_al; exact rfl; exact rfl)) | ((with_reducible refine freshIs_new ?_); kernel_rfl) | (simp only [B, xB, F, reduceLT, reduceLeDiff, reduceEqDiff, reduceAdd, reduceMul, reduceSub, ↓reduceIte, eq_self, g5o, g6o, c07, hlv, v1]))
   refine ((lenC h7 b rb Bk bk7).call P).mono P ?_
   rintro _ h8 ⟨rfl, o8⟩
   have rk8 := rk.keep (o37.t o8) (by simp)
   have c08 := rk8.c0
   have dl : decide (Bk.length = L.length) = true := decide_eq_true hBL.length_eq
   repeat' (first | ((with_reducible refine st1 ?_); (conv => whnf); (with_reducible refine ⟨?_⟩)) | ((with_reducible refine st_dp ord4_0 ?_ rfl rfl ?_); exact rfl; (conv => arg 4; whnf); (conv => arg 3; whnf)) | ((with_reducible refine retW_intro rfl ?_); (conv => arg 2; whnf)) | ((with_reducible first | refine iB ?_ ?_ | refine gWt ?_ ?_ | refine gWf ?_ ?_ | refine gXt ?_ ?_ | refine gXf ?_ ?_) <;> intro hb <;> (try simp only [hb])) | ((with_reducible show drawP _ _ _ _ _ _ _ _ _); first | ((with_reducible apply kP_rd); exact rfl; exact rfl) | ((with_reducible apply kP_rg); exact rfl; exact rfl; exact rfl) | ((with_reducible apply kP_cv); exact rfl; exact rfl; kernel_rfl) | ((with_reducible apply kP_al); exact rfl; exact rfl; exact rfl) | ((with_reducible apply kP_fl); exact rfl; exact rfl; exact rfl) | ((with_reducible apply kP_ex); exact rfl; exact rfl; kernel_rfl; exact rfl) | ((with_reducible apply kP_eg); exact rfl; exact rfl; kernel_rfl; exact rfl) | ((with_reducible refine kP_nl ?_ ?_))) | ((with_reducible show eOk _ _ _ _ _ _); first | (exact eok_nil) | (refine ke_rd ?_ ?_ ?_; exact rfl) | (apply ke_rg; exact rfl; exact rfl) | (refine ke_cv ?_ ?_ ?_ ?_; exact rfl; kernel_rfl) | (apply ke_fl; exact rfl) | (apply ke_al; exact rfl; exact rfl)) | ((with_reducible refine freshIs_new ?_); kernel_rfl) | (simp only [B, xB, F, reduceLT, reduceLeDiff, reduceEqDiff, reduceAdd, reduceMul, reduceSub, ↓reduceIte, eq_self, g5o, g6o, c08, hlv, v1, dl]))
   refine ((worksC h8 (gl.keep ((oo.t o13).t (o37.t o8)) (by simp))).call P).mono P ?_
   rintro _ h9 ⟨rfl, o9⟩
   have rk9 := (rk.keep (o37.t o8) (by simp)).keep o9 (by simp)
   have c09 := rk9.c0
   repeat' (first | ((with_reducible refine st1 ?_); (conv => whnf); (with_reducible refine ⟨?_⟩)) | ((with_reducible refine st_dp ord4_0 ?_ rfl rfl ?_); exact rfl; (conv => arg 4; whnf); (conv => arg 3; whnf)) | ((with_reducible refine retW_intro rfl ?_); (conv => arg 2; whnf)) | ((with_reducible first | refine iB ?_ ?_ | refine gWt ?_ ?_ | refine gWf ?_ ?_ | refine gXt ?_ ?_ | refine gXf ?_ ?_) <;> intro hb <;> (try simp only [hb])) | ((with_reducible show drawP _ _ _ _ _ _ _ _ _); first | ((with_reducible apply kP_rd); exact rfl; exact rfl) | ((with_reducible apply kP_rg); exact rfl; exact rfl; exact rfl) | ((with_reducible apply kP_cv); exact rfl; exact rfl; kernel_rfl) | ((with_reducible apply kP_al); exact rfl; exact rfl; exact rfl) | ((with_reducible apply kP_fl); exact rfl; exact rfl; exact rfl) | ((with_reducible apply kP_ex); exact rfl; exact rfl; kernel_rfl; exact rfl) | ((with_reducible apply kP_eg); exact rfl; exact rfl; kernel_rfl; exact rfl) | ((with_reducible refine kP_nl ?_ ?_))) | ((with_reducible show eOk _ _ _ _ _ _); first | (exact eok_nil) | (refine ke_rd ?_ ?_ ?_; exact rfl) | (apply ke_rg; exact rfl; exact rfl) | (refine ke_cv ?_ ?_ ?_ ?_; exact rfl; kernel_rfl) | (apply ke_fl; exact rfl) | (apply ke_al; exact rfl; exact rfl)) | ((with_reducible refine freshIs_new ?_); kernel_rfl) | (simp only [B, xB, F, reduceLT, reduceLeDiff, reduceEqDiff, reduceAdd, reduceMul, reduceSub, ↓reduceIte, eq_self, g5o, g6o, c08, c09, hlv, v1, dl]))
  ·exact absurd ((goodY_iff ox.nd).2 ⟨Bk, val, pm⟩) rn.no
 ·obtain ⟨rfl, oo, no⟩ := on
  have mp1 := mp.keep oo.1 (by simp)
  repeat' (first | ((with_reducible refine st1 ?_); (conv => whnf); (with_reducible refine ⟨?_⟩)) | ((with_reducible refine retW_intro rfl ?_); (conv => arg 2; whnf)) | ((with_reducible first | refine iB ?_ ?_ | refine gWt ?_ ?_ | refine gWf ?_ ?_) <;> intro hb <;> (try simp only [hb])) | (simp only [B, xB, F, reduceLT, reduceLeDiff, reduceEqDiff, reduceAdd, reduceMul, reduceSub, ↓reduceIte, eq_self, t3]))
  refine ((risingC h1 rc C mp1 (by omega)).call P).mono P ?_
  rintro u2 h2 hr2
  have o2 := hr2.1
  repeat' (first | ((with_reducible refine st1 ?_); (conv => whnf); (with_reducible refine ⟨?_⟩)) | ((with_reducible refine retW_intro rfl ?_); (conv => arg 2; whnf)) | ((with_reducible first | refine iB ?_ ?_ | refine gWt ?_ ?_ | refine gWf ?_ ?_) <;> intro hb <;> (try simp only [hb])) | (simp only [B, xB, F, reduceLT, reduceLeDiff, reduceEqDiff, reduceAdd, reduceMul, reduceSub, ↓reduceIte, eq_self]))
  refine ((rest h1 oo u2 h2 hr2).call P).mono P ?_
  rintro u3 h3 (⟨b2, L, v, ry⟩ | rn)
  ·exact absurd ((goodY_iff ox.nd).1 ⟨L, ry.val, ry.eq⟩) no
  ·obtain ⟨rfl, o3, rno⟩ := rn
   repeat' (first | ((with_reducible refine st1 ?_); (conv => whnf); (with_reducible refine ⟨?_⟩)) | ((with_reducible refine retW_intro rfl ?_); (conv => arg 2; whnf)) | ((with_reducible first | refine iB ?_ ?_ | refine gWt ?_ ?_ | refine gWf ?_ ?_) <;> intro hb <;> (try simp only [hb])) | (simp only [B, xB, F, reduceLT, reduceLeDiff, reduceEqDiff, reduceAdd, reduceMul, reduceSub, ↓reduceIte, eq_self]))
   refine ((worksC h3 (gl.keep (oo.t (o2.t o3)) (by simp))).call P).mono P ?_
   rintro _ h9 ⟨rfl, o9⟩
   repeat' (first | ((with_reducible refine st1 ?_); (conv => whnf); (with_reducible refine ⟨?_⟩)) | ((with_reducible refine retW_intro rfl ?_); (conv => arg 2; whnf)) | ((with_reducible first | refine iB ?_ ?_ | refine gWt ?_ ?_ | refine gWf ?_ ?_) <;> intro hb <;> (try simp only [hb])) | (simp only [B, xB, F, reduceLT, reduceLeDiff, reduceEqDiff, reduceAdd, reduceMul, reduceSub, ↓reduceIte, eq_self]))
structure CuI (h0 : H) (r it rc : Nat) (X : List Kp) (m : Nat) (ds : List Nat) (tm : T AV) (h : H) (V R C : List Kp) : Prop where
 ds : ds = []
 nn : m = R.length
 pm : (V ++ R).Perm X
 t3 : tm.get 3 = some (.map rc)
 t12 : tm.get 12 = some (.ptr it 0)
 rg : RngK encS h it r (mS X) (mS V) (mS R)
 mp : MapK encS h rc (mS C)
 sub : ∀ p, p ∈ C → p ∈ V ∧ p.1.length ≤ 40 ∧ p.2.length ≤ 120
 nd : (C.map (·.1)).Nodup
 ln : C.length ≤ 100
 oo : Og h0 h []
theorem opensW (h0 : H) (gl : Gl h0) (r : Nat) (X : List Kp) (mr : MapR encS h0 r (mS X)) (nd : (X.map (·.1)).Nodup) (hb : ∀ p, p ∈ X → isBy p.1 ∧ isBy p.2) :
  codeW P 4 81 none (bodyC Tryz.f4) [] (T.fill .e 0 [.map r]) h0 (retK P Tryz.f4 fun v _ => v = .bool true) := by
 have ltr := mr.lt
 obtain ⟨h1, h1e⟩ : ∃ h1, h1 = h0.alloc (.map [] 0) := ⟨_, rfl⟩
 have o1 : Og h0 h1 []:= by rw [h1e]; exact (Og.refl _ _).alloc _
 have x1 : h1.nx = h0.nx + 1:= by rw [h1e]; rfl
 have m1 : MapK encS h1 h0.nx []:= by rw [h1e]; exact newMap h0 encS
 have mr1 : MapR encS h1 r (mS X) := by
  obtain ⟨es, c, e1, e2⟩ := mr.has
  exact ⟨⟨es, c, by rw [o1.1.2 r ltr (by simp)]; exact e1, e2⟩, by omega⟩
 obtain ⟨h3, hrg, rg3, x3, o3, gg3⟩ := range_r (P := P) mr1 u31a
 have o13 : Og h1 h3 [] := ⟨o3, gg3⟩
 have o03 := o1.t o13
 refine codeW_root ?_
 repeat' (first | ((with_reducible refine st1 ?_); (conv => whnf); (with_reducible refine ⟨?_⟩)) | ((with_reducible refine retW_intro rfl ?_); (conv => arg 2; whnf)) | ((with_reducible first | refine iB ?_ ?_ | refine gWt ?_ ?_ | refine gWf ?_ ?_) <;> intro hb <;> (try simp only [hb])) | (simp only [B, xB, F, reduceLT, reduceLeDiff, reduceEqDiff, reduceAdd, reduceMul, reduceSub, ↓reduceIte, eq_self, mk25o, ← h1e, @ex_range, hrg]))
 refine st_loop (fun m ds tm h => ∃ V R C, CuI h0 r h1.nx h0.nx X m ds tm h V R C) X.length rfl ⟨[], X, [], rfl, rfl, List.Perm.refl _, by simp only [B, xB, F, reduceLT, reduceLeDiff, reduceEqDiff, reduceAdd, reduceMul, reduceSub, ↓reduceIte, eq_self], by simp only [B, xB, F, reduceLT, reduceLeDiff, reduceEqDiff, reduceAdd, reduceMul, reduceSub, ↓reduceIte, eq_self], rg3, m1.keep o3 (by simp), fun p hp => (by cases hp), List.nodup_nil, Nat.zero_le _, o03⟩ (fun m ds tm h hI => ?_)
 obtain ⟨V, R, C, rfl, rfl, pm, t3, t12, rg, mp, sub, ndC, ln, oo⟩ := hI
 have xo := oo.1.1
 have hln : V.length + R.length = X.length:= by rw [← List.length_append]; exact pm.length_eq
 repeat' (first | (with_reducible refine stopC [0, 0, 0, 1, 0, 1, 1] ?_) | ((with_reducible refine st1 ?_); (conv => whnf); (with_reducible refine ⟨?_⟩)) | ((with_reducible refine retW_intro rfl ?_); (conv => arg 2; whnf)) | ((with_reducible first | refine iB ?_ ?_ | refine gWt ?_ ?_ | refine gWf ?_ ?_) <;> intro hb <;> (try simp only [hb])) | (simp only [B, xB, F, reduceLT, reduceLeDiff, reduceEqDiff, reduceAdd, reduceMul, reduceSub, ↓reduceIte, eq_self]))
 refine ⟨pk1 ?_⟩
 (conv => whnf)
 with_reducible refine ⟨?_⟩
 refine pick_k rfl rfl t12 rg (fun hR => ?_) (fun p R1 R2 h4 hR rg4 x4 o4 gg4 hen => ?_)
 ·obtain rfl : R = []:= by unfold mS at hR; exact List.map_eq_nil_iff.1 hR
  repeat' (first | (with_reducible refine stopC [1, 1, 1] ?_) | ((with_reducible refine st1 ?_); (conv => whnf); (with_reducible refine ⟨?_⟩)) | ((with_reducible refine retW_intro rfl ?_); (conv => arg 2; whnf)) | ((with_reducible first | refine iB ?_ ?_ | refine gWt ?_ ?_ | refine gWf ?_ ?_) <;> intro hb <;> (try simp only [hb])) | (simp only [B, xB, F, reduceLT, reduceLeDiff, reduceEqDiff, reduceAdd, reduceMul, reduceSub, ↓reduceIte, eq_self]))
  have hC : ∀ p, p ∈ C → p ∈ X := fun p hp => pm.mem_iff.1 (List.mem_append_left _ (sub p hp).1)
  exact ⟨opTail h _ (gl.keep oo (by simp)) h0.nx C ⟨ndC, fun p hp => ⟨(hb p (hC p hp)).1, (hb p (hC p hp)).2, by have := (sub p hp).2.1; omega, by have := (sub p hp).2.2; omega⟩, by omega⟩ ln mp (by simp only [B, xB, F, reduceLT, reduceLeDiff, reduceEqDiff, reduceAdd, reduceMul, reduceSub, ↓reduceIte, eq_self, t3])⟩
 ·obtain ⟨S1, ⟨k, s⟩, S2, rfl, e1, rfl, e2⟩ := mS_split hR
  have hen4 := hen h4 rfl rfl
  have og4 : Og h h4 [h1.nx] := ⟨o4, gg4⟩
  have mp4 : MapK encS h4 h0.nx (mS C) := mp.keep o4 (by simp; omega)
  have hlr : (S1 ++ (k, s) :: S2).length = (S1 ++ S2).length + 1:= by simp; omega
  have ll := len_k (P := P) u31a mp4 [] []
  rw [show (mS C).length = C.length by unfold mS; simp] at ll
  have ndx : ((V ++ S1 ++ (k, s) :: S2).map (·.1)).Nodup := (pm.map _).nodup_iff.2 nd |> fun q => by simpa using q
  have hkC : k ∉ C.map (·.1) := fun hm => by
   obtain ⟨p, hp, ep⟩ := List.mem_map.1 hm
   rw [List.map_append, List.nodup_append] at ndx
   exact ndx.2.2 k (by
    rw [List.map_append, List.mem_append]
    exact .inl (List.mem_map.2 ⟨p, (sub p hp).1, ep⟩)) k (by simp) rfl
  have ogE : Og h0 h4 [] := ⟨⟨by omega, fun c hc _ => by rw [o4.2 c (by omega) (by simp; omega)]; exact oo.1.2 c hc (by simp)⟩, gg4.trans oo.2⟩
  have skip : ∀ tm2 : T AV, tm2.get 3 = some (.map h0.nx) → tm2.get 12 = some (.ptr h1.nx 0) → ∃ m, m < (S1 ++ (k, s) :: S2).length ∧ ∃ V R C, CuI h0 r h1.nx h0.nx X m [] tm2 h4 V R C := fun tm2 q3 q12 =>
   ⟨(S1 ++ S2).length, by omega, V ++ [(k, s)], S1 ++ S2, C, rfl, rfl, perm_step pm, q3, q12, by rw [mS_app, mS_app, e1, e2]; exact rg4, mp4, fun p hp => ⟨by simp [(sub p hp).1], (sub p hp).2⟩, ndC, ln, ogE⟩
  by_cases p1 : C.length < 100
  ·have d1 : decide (C.length < 100) = true := decide_eq_true p1
   by_cases p2 : k.length ≤ 40
   ·have d2 : decide (k.length ≤ 40) = true := decide_eq_true p2
    by_cases p3 : s.length ≤ 120
    ·have d3 : decide (s.length ≤ 120) = true := decide_eq_true p3
     obtain ⟨h5, hu, mp5, x5, o5, g5⟩ := update_k (P := P) u31a k9 mp4 k (.str s)
     rw [put_mS hkC] at mp5
     repeat' (first | ((with_reducible refine st1 ?_); (conv => whnf); (with_reducible refine ⟨?_⟩)) | ((with_reducible refine retW_intro rfl ?_); (conv => arg 2; whnf)) | ((with_reducible first | refine iB ?_ ?_ | refine gWt ?_ ?_ | refine gWf ?_ ?_) <;> intro hb <;> (try simp only [hb])) | (simp only [B, xB, F, reduceLT, reduceLeDiff, reduceEqDiff, reduceAdd, reduceMul, reduceSub, ↓reduceIte, eq_self, t3, t12, @ex_entry, hen4, ll, d1, d2, d3, @ex_mapUpdate, hu, oH_some]))
     refine ⟨(S1 ++ S2).length, by omega, V ++ [(k, s)], S1 ++ S2, C ++ [(k, s)], rfl, rfl, perm_step pm, by simp only [B, xB, F, reduceLT, reduceLeDiff, reduceEqDiff, reduceAdd, reduceMul, reduceSub, ↓reduceIte, eq_self, t3], by simp only [B, xB, F, reduceLT, reduceLeDiff, reduceEqDiff, reduceAdd, reduceMul, reduceSub, ↓reduceIte, eq_self, t12], by
      rw [mS_app, mS_app, e1, e2]
      exact rg4.keep o5 (by simp; omega) (by simp; omega), mp5, fun p hp => ?_, ?_, by rw [List.length_append, List.length_singleton]; omega, ⟨⟨by omega, fun c hc _ => ?_⟩, g5.trans ogE.2⟩⟩
     ·rw [List.mem_append, List.mem_singleton] at hp
      rcases hp with hp | rfl
      ·exact ⟨by simp [(sub p hp).1], (sub p hp).2⟩
      ·exact ⟨by simp, p2, p3⟩
     ·rw [List.map_append, List.nodup_append]
      exact ⟨ndC, by simp, fun a ha b hb e => by
       simp at hb
       subst hb
       exact hkC (e ▸ ha)⟩
     ·rw [o5.2 c (by omega) (by simp; omega)]; exact ogE.1.2 c hc (by simp)
    ·have d3 : decide (s.length ≤ 120) = false := decide_eq_false p3
     repeat' (first | ((with_reducible refine st1 ?_); (conv => whnf); (with_reducible refine ⟨?_⟩)) | ((with_reducible refine retW_intro rfl ?_); (conv => arg 2; whnf)) | ((with_reducible first | refine iB ?_ ?_ | refine gWt ?_ ?_ | refine gWf ?_ ?_) <;> intro hb <;> (try simp only [hb])) | (simp only [B, xB, F, reduceLT, reduceLeDiff, reduceEqDiff, reduceAdd, reduceMul, reduceSub, ↓reduceIte, eq_self, t3, t12, @ex_entry, hen4, ll, d1, d2, d3]))
     exact skip _ (by simp only [B, xB, F, reduceLT, reduceLeDiff, reduceEqDiff, reduceAdd, reduceMul, reduceSub, ↓reduceIte, eq_self, t3]) (by simp only [B, xB, F, reduceLT, reduceLeDiff, reduceEqDiff, reduceAdd, reduceMul, reduceSub, ↓reduceIte, eq_self, t12])
   ·have d2 : decide (k.length ≤ 40) = false := decide_eq_false p2
    repeat' (first | ((with_reducible refine st1 ?_); (conv => whnf); (with_reducible refine ⟨?_⟩)) | ((with_reducible refine retW_intro rfl ?_); (conv => arg 2; whnf)) | ((with_reducible first | refine iB ?_ ?_ | refine gWt ?_ ?_ | refine gWf ?_ ?_) <;> intro hb <;> (try simp only [hb])) | (simp only [B, xB, F, reduceLT, reduceLeDiff, reduceEqDiff, reduceAdd, reduceMul, reduceSub, ↓reduceIte, eq_self, t3, t12, @ex_entry, hen4, ll, d1, d2]))
    exact skip _ (by simp only [B, xB, F, reduceLT, reduceLeDiff, reduceEqDiff, reduceAdd, reduceMul, reduceSub, ↓reduceIte, eq_self, t3]) (by simp only [B, xB, F, reduceLT, reduceLeDiff, reduceEqDiff, reduceAdd, reduceMul, reduceSub, ↓reduceIte, eq_self, t12])
  ·have d1 : decide (C.length < 100) = false := decide_eq_false p1
   repeat' (first | ((with_reducible refine st1 ?_); (conv => whnf); (with_reducible refine ⟨?_⟩)) | ((with_reducible refine retW_intro rfl ?_); (conv => arg 2; whnf)) | ((with_reducible first | refine iB ?_ ?_ | refine gWt ?_ ?_ | refine gWf ?_ ?_) <;> intro hb <;> (try simp only [hb])) | (simp only [B, xB, F, reduceLT, reduceLeDiff, reduceEqDiff, reduceAdd, reduceMul, reduceSub, ↓reduceIte, eq_self, t3, t12, @ex_entry, hen4, ll, d1]))
   exact skip _ (by simp only [B, xB, F, reduceLT, reduceLeDiff, reduceEqDiff, reduceAdd, reduceMul, reduceSub, ↓reduceIte, eq_self, t3]) (by simp only [B, xB, F, reduceLT, reduceLeDiff, reduceEqDiff, reduceAdd, reduceMul, reduceSub, ↓reduceIte, eq_self, t12])
theorem ex_next0 {tm : T AV} {h : H} (x : Operand) : execA P tm h (.next x false) = ob (evalA tm x) fun v => nextA v false h := by
 simp only [execA]
 cases evalA tm x <;> rfl
structure CnI (h3 : H) (it rc : Nat) (m : Nat) (ds : List Nat) (tm : T AV) (h : H) : Prop where
 ds : ds = []
 nn : m = 0
 t3 : tm.get 3 = some (.map rc)
 t12 : tm.get 12 = some (.ptr it 0)
 hh : h = h3
theorem opensN (h0 : H) (gl : Gl h0) :
  codeW P 4 81 none (bodyC Tryz.f4) [] (T.fill .e 0 [.nilmap]) h0 (retK P Tryz.f4 fun v _ => v = .bool true) := by
 obtain ⟨h1, h1e⟩ : ∃ h1, h1 = h0.alloc (.map [] 0) := ⟨_, rfl⟩
 have o1 : Og h0 h1 []:= by rw [h1e]; exact (Og.refl _ _).alloc _
 have x1 : h1.nx = h0.nx + 1:= by rw [h1e]; rfl
 have m1 : MapK encS h1 h0.nx []:= by rw [h1e]; exact newMap h0 encS
 obtain ⟨h3, h3e⟩ : ∃ h3, h3 = h1.alloc (.mapIter none 0 [] 0) := ⟨_, rfl⟩
 have o13 : Og h1 h3 []:= by rw [h3e]; exact (Og.refl _ _).alloc _
 have o03 := o1.t o13
 have hrg : rangeA P 25 .nilmap h1 = .val (.ptr h1.nx 0) h3:= by rw [h3e]; unfold rangeA; simp only [u31a]
 have g3 : h3.t.get h1.nx = some (.mapIter none 0 [] 0) := by
  rw [h3e]
  show (h1.t.set h1.nx _).get h1.nx = _
  rw [T.get_set, if_pos rfl]
 have hnx : nextA (.ptr h1.nx 0) false h3 = .val (.tuple [.bool false]) h3:= by unfold nextA; simp only [g3]
 refine codeW_root ?_
 repeat' (first | ((with_reducible refine st1 ?_); (conv => whnf); (with_reducible refine ⟨?_⟩)) | ((with_reducible refine retW_intro rfl ?_); (conv => arg 2; whnf)) | ((with_reducible first | refine iB ?_ ?_ | refine gWt ?_ ?_ | refine gWf ?_ ?_) <;> intro hb <;> (try simp only [hb])) | (simp only [B, xB, F, reduceLT, reduceLeDiff, reduceEqDiff, reduceAdd, reduceMul, reduceSub, ↓reduceIte, eq_self, mk25o, ← h1e, @ex_range, hrg]))
 refine st_loop (fun m ds tm h => CnI h3 h1.nx h0.nx m ds tm h) 0 rfl ⟨rfl, rfl, by simp only [B, xB, F, reduceLT, reduceLeDiff, reduceEqDiff, reduceAdd, reduceMul, reduceSub, ↓reduceIte, eq_self], by simp only [B, xB, F, reduceLT, reduceLeDiff, reduceEqDiff, reduceAdd, reduceMul, reduceSub, ↓reduceIte, eq_self], rfl⟩ (fun m ds tm h hI => ?_)
 obtain ⟨rfl, rfl, t3, t12, rfl⟩ := hI
 repeat' (first | (with_reducible refine stopC [1, 1, 1] ?_) | ((with_reducible refine st1 ?_); (conv => whnf); (with_reducible refine ⟨?_⟩)) | ((with_reducible refine retW_intro rfl ?_); (conv => arg 2; whnf)) | ((with_reducible first | refine iB ?_ ?_ | refine gWt ?_ ?_ | refine gWf ?_ ?_) <;> intro hb <;> (try simp only [hb])) | (simp only [B, xB, F, reduceLT, reduceLeDiff, reduceEqDiff, reduceAdd, reduceMul, reduceSub, ↓reduceIte, eq_self, t3, t12, ex_next0, hnx]))
 exact ⟨opTail h _ (gl.keep o03 (by simp)) h0.nx [] ⟨List.nodup_nil, fun p hp => (by cases hp), Nat.zero_le _⟩ (Nat.zero_le _) (m1.keep o13.1 (by simp)) (by simp only [B, xB, F, reduceLT, reduceLeDiff, reduceEqDiff, reduceAdd, reduceMul, reduceSub, ↓reduceIte, eq_self, t3])⟩
end
end Go.Proofs.YtllmfnedkhiomaaGreatDoor.S

namespace Go.Proofs.YtllmfnedkhiomaaGreatDoor.S
open Go Go.AX
noncomputable section
set_option maxRecDepth 100000
def tab64 : List Int := [0, 1, 56, 2, 57, 49, 28, 3, 61, 58, 42, 50, 38, 29, 17, 4, 62, 47, 59, 36, 45, 43, 51, 22, 53, 39, 33, 30, 24, 18, 12, 5, 63, 55, 48, 27, 60, 41, 37, 16, 46, 35, 44, 21, 52, 32, 23, 11, 54, 26, 40, 15, 34, 20, 31, 10, 25, 14, 19, 9, 13, 8, 7, 6]
theorem start {w : World} {l : List (String × DataW Unit)} (h : laidMet P l w) (hm : ("math/bits.deBruijn64tab", Rows.laid_math_bits_deBruijn64tab) ∈ l) :
  Gl (absHg w 8) ∧ 8 ≤ w.heap.size := by
 obtain ⟨g, t, cs, fuel, p, hg, hty, hvar, hd⟩ := Go.Lib.laidMet.reads h hm
 have e1 : P.globalNamed "math/bits.deBruijn64tab" = some 7:= by kernel_rfl
 have e2 : (P.globals[7]?).map (·.type) = some 184:= by kernel_rfl
 obtain rfl := Option.some.inj (e1.symm.trans hg)
 obtain rfl := Option.some.inj (e2.symm.trans hty)
 have hcs := Go.Lib.cells_of_tab (k := .u8) (zs := tab64) u130a (show P.underlying 5 = some (.int .u8) by kernel_rfl) (by kernel_rfl) (by kernel_rfl) hd
 unfold World.var? at hvar
 rw [hg] at hvar
 simp only [Option.bind_some] at hvar
 split at hvar
 ·rename_i c t' frz hb
  cases hvar
  have hlt : 7 < w.heap.size := (Array.getElem?_eq_some_iff.1 hb).1
  have h15 : cs[15]? = some (Value.int .u8 4) := by
   rw [← Array.getElem?_toList, hcs]; rfl
  refine ⟨⟨Nat.lt_succ_self _, ?_, hlt⟩, hlt⟩
  exact absHg_cell (v := .int .u8 4) (by unfold World.cell?; simp only [hb]; exact h15) rfl
 ·cases hvar
theorem u9s : P.underlying 9 = some .string:= by kernel_rfl
end
end Go.Proofs.YtllmfnedkhiomaaGreatDoor.S
namespace Go.Proofs.YtllmfnedkhiomaaGreatDoor.sessOpens
open Go.ChangeShapes Go.WideShapes Go.ChangeAt Go.RowKit
theorem own : ownKnob Tryz.prog.godebug = none:= by kernel_rfl
theorem laidOut : laidOutB Tryz.prog = true:= by kernel_rfl
theorem readable : ∀ t, t ∈ [25] → Tryz.prog.readableRec t = true ∧ t < Tryz.prog.types.size := by
 intro t ht
 simp only [List.mem_cons, List.mem_nil_iff, or_false] at ht
 rcases ht with rfl
 exact ⟨by kernel_rfl, of_decide_eq_true (by kernel_rfl)⟩
theorem plain (w : World) : laidMetH Tryz.prog Rows.sessOpensRow.laid w = laidMet Tryz.prog Rows.sessOpensRow.laid w := Go.MakeChecks.laidMetH_plain _ _ _ (by kernel_rfl)
set_option maxRecDepth 100000 in
theorem witness (os : Os) (args : Array Value) : laidMet Tryz.prog Rows.sessOpensRow.laid ((World.laidAll Tryz.prog os Rows.sessOpensRow.laid).forCall (fun _ _ => 0) ⟨#[], args, []⟩).memory :=
 laidMet_laidAll args (by kernel_rfl) (by kernel_rfl)
set_option maxRecDepth 100000 in
theorem walkM (M : World) (r clock : Nat) (es : List (AX.AV × AX.AV × Nat)) (ces : Array MapEntry) (X : List S.Kp) (gl : S.Gl (AX.absHm M 8 r es clock)) (h8 : 8 ≤ M.heap.size) (hr : M.heap[r]? = some (.map ces clock)) (he : AX.All2 (AX.EntR (AX.absPhi M.heap.size)) es ces.toList)
  (h2 : es.map AX.entP = (S.mS X).map (AX.encP S.encS)) (h3 : (es.map (·.2.2)).Nodup) (h4 : ∀ x, x ∈ es → x.2.2 < clock) (nd : (X.map (·.1)).Nodup) (hb : ∀ p, p ∈ X → S.isBy p.1 ∧ S.isBy p.2) :
  Calls Tryz.prog 4 #[.map (some r)] M fun e w' => e = .returned (.bool true) ∧ Below M.heap.size M w' := by
 have hlt : r < M.heap.size := (Array.getElem?_eq_some_iff.1 hr).1
 have hw' := S.opensW (AX.absHm M 8 r es clock) gl r X ⟨⟨es, clock, by rw [AX.absHm_at]; rfl, h2, h3, h4⟩, hlt⟩ nd hb
 refine (AX.calls_of_codeW (fn := Tryz.f4) (c := AX.bodyC Tryz.f4) Tryz.func4 rfl hw' (AX.absHm_rel M h8 hr he) (Nat.le_refl _) (cargs := #[.map (some r)]) ⟨by simp only [AX.VR_map]; exact ⟨⟨r, 0, 0⟩, by unfold AX.absPhi; rw [if_pos hlt], rfl⟩, trivial⟩).mono ?_
 rintro e1 w' ⟨N', φ', cv', v, h', _, rfl, hq, _, hv', _, hb⟩
 have hq : v = .bool true := hq
 subst hq
 rw [AX.VR_bool] at hv'; subst hv'
 exact ⟨rfl, hb⟩
set_option maxRecDepth 100000 in
theorem walkN (M : World) (gl : S.Gl (AX.absHg M 8)) (h8 : 8 ≤ M.heap.size) :
  Calls Tryz.prog 4 #[.map none] M fun e w' => e = .returned (.bool true) ∧ Below M.heap.size M w' := by
 have hw' := S.opensN (AX.absHg M 8) gl
 refine (AX.calls_of_codeW (fn := Tryz.f4) (c := AX.bodyC Tryz.f4) Tryz.func4 rfl hw' (AX.absHg_rel M h8) (Nat.le_refl _) (cargs := #[.map none]) ⟨by simp only [AX.VR_nilmap], trivial⟩).mono ?_
 rintro e1 w' ⟨N', φ', cv', v, h', _, rfl, hq, _, hv', _, hb⟩
 have hq : v = .bool true := hq
 subst hq
 rw [AX.VR_bool] at hv'; subst hv'
 exact ⟨rfl, hb⟩
set_option maxRecDepth 100000 in
theorem lifted (os : Os) (started : os.Started) (H : Type) (enc : TypeId × Value → H) :
  ReturnsInHanded {} Tryz.checked os 4 .any (fun w args => (Rows.sessOpensSpec.pre enc Tryz.prog Tryz.f4 [] false w args ∧ laidMetH Tryz.prog Rows.sessOpensRow.laid w) ∧ sizedMet enc Tryz.prog Tryz.f4 (OpenSpec.ofChange Rows.sessOpensSpec) false w args)
   (Rows.sessOpensSpec.post enc Tryz.prog Tryz.f4 false true false false) := by
 refine returnsInHanded_of_change_and (C := Tryz.checked) (X := fun w _ => laidMetH Tryz.prog Rows.sessOpensRow.laid w) (fun _ _ _ hh h => h.of_heap hh) own started (by kernel_rfl) Tryz.func4
  (ChangeSpec.witness_shaped (enc := enc) (C := Tryz.checked) (os := os) (X := fun w _ => laidMetH Tryz.prog Rows.sessOpensRow.laid w) false (World.laidAll Tryz.prog os Rows.sessOpensRow.laid) #[.map none] 8 (World.laidAll_os _ _ _) (World.shaped_of_ZipB (by kernel_rfl) (by kernel_rfl)) (by kernel_rfl) (by kernel_rfl) (by kernel_rfl) (by rw [plain]; exact witness os _)) ?_
 intro M base args ds gs before hval0 hW _ _ hL _
 have hW' := hW
 have hlt := hW.lt
 obtain ⟨p, q, hA0, hV, rfl, hfz, hnd⟩ := hW
 have hA : DataW.TrodAll enc Tryz.prog M 0 (fun _ => true) true Tryz.f4.params.toList args.toList ds p := hA0
 rw [Tryz.params4] at hA hval0
 have hA1 := hA
 obtain ⟨v0, vs0, d0, ds0, p0, q0, hargs, rfl, rfl, g0, r0⟩ := trodAll_cons hA
 obtain ⟨rfl, rfl, rfl⟩ := trodAll_nil r0
 obtain rfl : args = #[v0]:= by cases args; simp_all
 obtain ⟨rfl, rfl⟩ := trodVars_none hV
 have hL' : laidMetH Tryz.prog Rows.sessOpensRow.laid M := hL
 rw [plain] at hL'
 obtain ⟨gl, h8⟩ := S.start hL' (by simp [Rows.sessOpensRow])
 simp only [List.append_nil] at hW' hlt
 have hcall : Calls Tryz.prog 4 #[v0] M fun e w' => e = .returned (.bool true) ∧ Below M.heap.size M w' := by
  rcases AX.rows_argM S.u31a S.u9s S.u9s g0 (WideShapes.okWide_map S.u31a (hval0 0 25 v0 rfl rfl)) with rfl | ⟨r, es, clock, ces, X, rfl, q1, q2, q3, q4, q5, q6, q7, q8⟩
  ·exact walkN M gl h8
  ·have hne : (7 : Nat) ≠ r := by
    intro e
    subst e
    have := gl.c
    unfold AX.cellAt at this
    rw [show (AX.absHg M 8).t.get 7 = (AX.absH M).t.get 7 from rfl, AX.absH_get, q1] at this
    cases this
   refine walkM M r clock es ces X ⟨gl.g, ?_, gl.x⟩ h8 q1 q2 q3 q4 q5 q6 q7
   rw [AX.cellAt_of_get (AX.absHm_ne hne)]; exact gl.c
 refine hcall.mono fun e1 M' ⟨he, hb⟩ => ?_
 subst he
 exact ⟨_, rfl, _, [], _, [], _, [], hW', trodAll_cons_mk (shut_bool Tryz.underlying4 _) trodAll_mk0, AX.trodAll_below laidOut hb readable hA1 (fun p hp => hlt p (by simpa using hp)) _ (fun p hp => decide_eq_true (hlt p (by simpa using hp))), rfl, hb.frame _, fun h => by cases h⟩
theorem over : Rows.SessOpensSaid :=
 OpenClaim.holds_of_wide 4 Tryz.f4 rfl rfl rfl rfl rfl rfl rfl ⟨rfl, rfl, rfl, rfl, rfl⟩ rfl rfl rfl rfl rfl (by kernel_rfl) Tryz.func4 (by kernel_rfl)
  (of_decide_eq_true (by kernel_rfl)) (by unfold Func.isWrapper; first | (rw [if_pos (by decide +kernel)]; kernel_rfl) | (rw [if_neg (by decide +kernel)]; exact ⟨rfl, rfl⟩))
  (fun os started H enc _ => lifted os started H enc)
theorem proved : Rows.SessOpensCardSaid :=
 Claim7.holds_tied_plain_at .later [] [.data, .data, .data, .data, .sentinel, .sentinel, .pinned] true (true, "e955fe4fc004cc64451b24886a51b50ca7b5ad9bc50d62bfb85b541788bc552d") true
  over (fun _ h => by cases h) (by kernel_rfl) (fun _ h => by cases h) sessOpens_row_tie rfl ⟨rfl, rfl⟩ (by kernel_rfl) rfl
  (fun f fn hf hfn => by
   obtain rfl : f = 4 := Option.some.inj ((show Tryz.prog.funcNamed "sediment/sedimentlaw21.SessOpens" = some 4 by kernel_rfl).symm.trans hf) |>.symm
   obtain rfl : fn = Tryz.f4 := (Option.some.inj (Tryz.func4.symm.trans hfn)).symm
   refine ⟨by kernel_rfl, fun j t ht => ?_⟩
   have ht : (Tryz.f4.params)[j]? = some t := ht
   rw [← Array.getElem?_toList, Tryz.params4] at ht
   match j, ht with
   | 0, ht =>
    obtain rfl : 25 = t := Option.some.inj ht
    exact (show Tryz.prog.wantsStandIn 25 = false by kernel_rfl)
   | j + 1, ht => simp at ht)
  (by kernel_rfl)
#print axioms proved
end Go.Proofs.YtllmfnedkhiomaaGreatDoor.sessOpens


/-
  sess: bytes, read: walked.
-/
import Derived.Test.YtllmfnedkhiomaaGreatDoorAxI
import Derived.Test.YtllmfnedkhiomaaGreatDoorG1
import Derived.Test.YtllmfnedkhiomaaGreatDoorAxF
import Derived.Laws.IdiomCopy
import Derived.ProofKit
set_option linter.unusedSimpArgs false
set_option linter.unusedVariables false
set_option linter.unusedSectionVars false
open Nat (reduceLT reduceLeDiff reduceEqDiff reduceAdd reduceMul reduceSub)
namespace Go.Proofs.YtllmfnedkhiomaaGreatDoor.S
open Go Go.AX
noncomputable section
set_option maxRecDepth 100000
def num256 (s : List Nat) : Nat := s.foldl (fun n c => n * 256 + c) 0
def rdNum : List Nat → Option (Nat × List Nat)
 | [] => none
 | x :: r => if x < 248 then some (x, r) else if r.length < x - 247 ∨ r[0]? = some 0 ∨ num256 (r.take (x - 247)) < 248 then none else some (num256 (r.take (x - 247)), r.drop (x - 247))
def numR (s : List Nat) (bad : Bool) : Nat × List Nat × Bool :=
 match rdNum s with
 | some (n, r) => (n, r, bad)
 | none => (0, [], true)
def textR (s : List Nat) (bad : Bool) : List Nat × List Nat × Bool :=
 if (numR s bad).2.1.length < (numR s bad).1 then ([], [], true) else ((numR s bad).2.1.take (numR s bad).1, (numR s bad).2.1.drop (numR s bad).1, (numR s bad).2.2)
structure RdAt (h : H) (b : Nat) (s : List Nat) (bad : Bool) : Prop where
 lt : b < h.nx
 c0 : cellAt h b 0 = some (.str s)
 c1 : cellAt h b 1 = some (.bool bad)
 wr : wrAt h b = true
theorem RdAt.keep {h h' : H} {b : Nat} {s : List Nat} {bad : Bool} (k : RdAt h b s bad) {S : List Nat} (o : Og h h' S) (hb : b ∉ S) : RdAt h' b s bad :=
 ⟨Nat.lt_of_lt_of_le k.lt o.1.1, kc k.c0 o k.lt hb, kc k.c1 o k.lt hb, kw k.wr o k.lt hb⟩
theorem RdAt.set {h : H} {b : Nat} {s : List Nat} {bad : Bool} (k : RdAt h b s bad) (s' : List Nat) : RdAt (h.sts b 0 [.str s']) b s' bad :=
 ⟨by rw [nx_sts]; exact k.lt, by rw [cellAt_sts k.wr, if_pos ⟨rfl, Nat.zero_le _, by simp⟩]; rfl, by rw [cellAt_sts k.wr, if_neg (by simp)]; exact k.c1, by rw [wrAt_sts]; exact k.wr⟩
theorem RdAt.bad {h : H} {b : Nat} {s : List Nat} {bad : Bool} (k : RdAt h b s bad) : RdAt (h.sts b 0 [.str [], .bool true]) b [] true :=
 ⟨by rw [nx_sts]; exact k.lt, by rw [cellAt_sts k.wr, if_pos ⟨rfl, Nat.zero_le _, by simp⟩]; rfl, by rw [cellAt_sts k.wr, if_pos ⟨rfl, Nat.zero_le _, by simp⟩]; rfl, by rw [wrAt_sts]; exact k.wr⟩
structure NumPost (h0 : H) (b : Nat) (x : Nat × List Nat × Bool) (v : AV) (h' : H) : Prop where
 v : v = .int .u64 (.ofNat x.1)
 rd : RdAt h' b x.2.1 x.2.2
 oo : Og h0 h' [b]
theorem Og.s1 {h h1 h2 : H} {S : List Nat} (a : Og h h1 []) (b : Og h1 h2 S) : Og h h2 S := ⟨⟨Nat.le_trans a.1.1 b.1.1, fun c hc hn => (b.1.2 c (Nat.lt_of_lt_of_le hc a.1.1) hn).trans (a.1.2 c hc (by simp))⟩, b.2.trans a.2⟩
theorem Og.s2 {h h1 h2 : H} {S : List Nat} (a : Og h h1 S) (b : Og h1 h2 S) : Og h h2 S := ⟨⟨Nat.le_trans a.1.1 b.1.1, fun c hc hn => (b.1.2 c (Nat.lt_of_lt_of_le hc a.1.1) hn).trans (a.1.2 c hc hn)⟩, b.2.trans a.2⟩
theorem cut_hiK (s : List Nat) (n : Nat) (kd : IntKind) (hn : n ≤ s.length) : sliceA P 9 (.str s) none (some (.int kd (.ofNat n))) none = some (.str (s.take n)) := by
 have hb : Nat.ble n s.length = true:= by rw [Nat.ble_eq]; exact hn
 simp only [sliceA, u9a, sliceStr, bndO, bnd, lenL_eq, hb, List.drop_zero, Nat.ble]
theorem cut_loK (s : List Nat) (n : Nat) (kd : IntKind) (hn : n ≤ s.length) : sliceA P 9 (.str s) (some (.int kd (.ofNat n))) none none = some (.str (s.drop n)) := by
 have hb : Nat.ble n s.length = true:= by rw [Nat.ble_eq]; exact hn
 simp only [sliceA, u9a, sliceStr, bndO, bnd, lenL_eq, hb, List.take_length]
theorem wrongC (h0 : H) (c b : Nat) (s : List Nat) (bad : Bool) (hc : cellAt h0 c 0 = some (.ptr b 0)) (k : RdAt h0 b s bad) : PushC P (.enter 58 [.ptr c 0] h0) (NumPost h0 b (0, [], true)) := by
 have e0 : bytesOf { data := #[] } = [] := rfl
 have c0 := k.c0
 have c1 := k.c1
 have wr := k.wr
 refine pushC_of_codeW (fn := Tryz.f58) (c := bodyC Tryz.f58) Tryz.func58 rfl ?_
 show codeW P 58 5 none _ _ _ _ _
 refine codeW_root ?_
 repeat' (first | ((with_reducible refine st1 ?_); (conv => whnf); (with_reducible refine ⟨?_⟩)) | ((with_reducible refine retW_intro rfl ?_); (conv => arg 2; whnf)) | ((with_reducible first | refine iB ?_ ?_ | refine gWt ?_ ?_ | refine gWf ?_ ?_) <;> intro hb <;> (try simp only [hb])) | (simp only [B, F, reduceLT, reduceLeDiff, reduceEqDiff, reduceAdd, reduceMul, reduceSub, ↓reduceIte, eq_self, hc, e0, c0, c1, wr]))
 exact ⟨rfl, k.bad, (Og.refl _ _).sts (.inl (by simp))⟩
theorem rdNum_at {s : List Nat} {x : Nat} (h : s[0]? = some x) : rdNum s = if x < 248 then some (x, s.drop 1) else if (s.drop 1).length < x - 247 ∨ (s.drop 1)[0]? = some 0 ∨ num256 ((s.drop 1).take (x - 247)) < 248 then none else some (num256 ((s.drop 1).take (x - 247)), (s.drop 1).drop (x - 247)) := by
 cases s with
 | nil => cases h
 | cons y r => simp at h; subst h; rfl
theorem num256_s {s : List Nat} {i x : Nat} (h : s[i]? = some x) : num256 (s.take (i + 1)) = num256 (s.take i) * 256 + x := by
 unfold num256
 rw [List.take_add_one, h, List.foldl_append]; rfl
theorem num256_lt : ∀ (s : List Nat), isBy s → num256 s < 256 ^ s.length := by
 intro s
 have key : ∀ (s : List Nat) (a k : Nat), isBy s → a < 256 ^ k → s.foldl (fun n c => n * 256 + c) a < 256 ^ (k + s.length) := by
  intro s
  induction s with
  | nil => intro a k _ h; exact h
  | cons c s ih =>
   intro a k hs ha
   have hc := hs c (by simp)
   have := ih (a * 256 + c) (k + 1) (fun d hd => hs d (by simp [hd])) (by rw [Nat.pow_succ]; omega)
   rw [List.length_cons, show k + (s.length + 1) = k + 1 + s.length by omega]
   exact this
 intro hs
 have := key s 0 0 hs (by simp)
 rwa [Nat.zero_add] at this
theorem or256 {n x : Nat} (hn : n < 72057594037927936) (hx : x < 256) : wrapF .u64 (.ofNat (Nat.lor (low .u64 (Int.ofNat (n * 256))) (low .u64 (Int.ofNat x)))) = Int.ofNat (n * 256 + x) := by
 have h1 : ∀ u : Nat, u < M64 → low .u64 (Int.ofNat u) = u := fun u hu => by
  unfold low
  show (Int.emod (u : Int) ((modF .u64 : Nat) : Int)).toNat = u
  have : ((u : Int)).emod ((modF .u64 : Nat) : Int) = ((u % modF .u64 : Nat) : Int) := rfl
  rw [this, Int.toNat_natCast]; exact Nat.mod_eq_of_lt hu
 have hM : M64 = 18446744073709551616 := rfl
 rw [h1 _ (by omega), h1 _ (by omega)]
 have h3 : Nat.lor (n * 256) x = n * 256 + x := by
  show n * 256 ||| x = _
  have := Nat.shiftLeft_add_eq_or_of_lt (i := 8) (b := x) (by simpa using hx) n
  rw [Nat.shiftLeft_eq] at this
  exact this.symm
 rw [h3]; exact u64_nat (by omega)
structure RnI (h1 : H) (b : Nat) (s : List Nat) (k : Nat) (m : Nat) (ds : List Nat) (tm : T AV) (h : H) (i : Nat) : Prop where
 ds : ds = []
 nn : m = k - i
 ii : i ≤ k
 t1 : tm.get 1 = some (.ptr b 0)
 t2 : tm.get 2 = some (.int .u64 (.ofNat (num256 (s.take i))))
 t3 : tm.get 3 = some (.func 58 [] [.ptr b 0])
 t5 : tm.get 5 = some (.str s)
 t6 : tm.get 6 = some (.int .i64 (.ofNat k))
 t50 : tm.get 50 = some (.int .i64 (.ofNat k))
 t51 : tm.get 51 = some (.int .i64 (.ofNat i))
 hh : h = h1
set_option maxHeartbeats 4000000 in
theorem numC (h0 : H) (b : Nat) (s : List Nat) (bad : Bool) (k : RdAt h0 b s bad) (hs : isBy s) (hz : s.length < 1000000) : PushC P (.enter 35 [.ptr b 0] h0) (NumPost h0 b (numR s bad)) := by
 have e0 : bytesOf { data := #[] } = [] := rfl
 obtain ⟨h1, h1e⟩ : ∃ h1, h1 = h0.newCells 89 [.ptr b 0] := ⟨_, rfl⟩
 have o1 : Og h0 h1 []:= by rw [h1e]; exact (Og.refl _ _).new _ _
 have x1 : h1.nx = h0.nx + 1:= by rw [h1e]; rfl
 have cb : cellAt h1 h0.nx 0 = some (.ptr b 0):= by rw [h1e, cellAt_new, if_pos rfl]; rfl
 have k1 := k.keep o1 (by simp)
 have c0 := k1.c0
 have c1 := k1.c1
 have wr := k1.wr
 by_cases q0 : s = []
 ·have d0 : decide (s = []) = true := decide_eq_true q0
  have hr : numR s bad = (0, [], true):= by rw [q0]; rfl
  rw [hr]
  refine pushC_of_codeW (fn := Tryz.f35) (c := bodyC Tryz.f35) Tryz.func35 rfl ?_
  show codeW P 35 73 none _ _ _ _ _
  refine codeW_root ?_
  repeat' (first | ((with_reducible refine st1 ?_); (conv => whnf); (with_reducible refine ⟨?_⟩)) | ((with_reducible refine retW_intro rfl ?_); (conv => arg 2; whnf)) | ((with_reducible first | refine iB ?_ ?_ | refine gWt ?_ ?_ | refine gWf ?_ ?_) <;> intro hb <;> (try simp only [hb])) | (simp only [B, xB, F, reduceLT, reduceLeDiff, reduceEqDiff, reduceAdd, reduceMul, reduceSub, ↓reduceIte, eq_self, e0, ← h1e, cb, c0, d0]))
  refine ((wrongC h1 h0.nx b s bad cb k1).call P).mono P ?_
  rintro v h2 ⟨rfl, rd, o2⟩
  repeat' (first | ((with_reducible refine st1 ?_); (conv => whnf); (with_reducible refine ⟨?_⟩)) | ((with_reducible refine retW_intro rfl ?_); (conv => arg 2; whnf)) | ((with_reducible first | refine iB ?_ ?_ | refine gWt ?_ ?_ | refine gWf ?_ ?_) <;> intro hb <;> (try simp only [hb])) | (simp only [B, xB, F, reduceLT, reduceLeDiff, reduceEqDiff, reduceAdd, reduceMul, reduceSub, ↓reduceIte, eq_self]))
  exact ⟨rfl, rd, o1.s1 o2⟩
 have d0 : decide (s = []) = false := decide_eq_false q0
 obtain ⟨x, hx⟩ : ∃ x, s[0]? = some x := by
  cases s with
  | nil => exact absurd rfl q0
  | cons y r => exact ⟨y, rfl⟩
 have hp : 0 < s.length:= by rcases Nat.eq_zero_or_pos s.length with q | q; exact absurd (List.length_eq_zero_iff.1 q) q0; exact q
 have ix := ix_str hx .i64
 have cl := cut_loK s 1 .i64 (by omega)
 have hx256 : x < 256 := hs x (List.mem_of_getElem? hx)
 have hrd := rdNum_at hx
 obtain ⟨r, hr⟩ : ∃ r, r = s.drop 1 := ⟨_, rfl⟩
 rw [← hr] at cl hrd
 have hrb : isBy r := fun c hc => hs c (by rw [hr] at hc; exact List.mem_of_mem_drop hc)
 have hrl : r.length < 1000000:= by rw [hr, List.length_drop]; omega
 by_cases q1 : x < 248
 ·have d1 : decide (x < 248) = true := decide_eq_true q1
  rw [if_pos q1] at hrd
  have wx : wrapF .u64 (Int.ofNat x) = Int.ofNat x := u64_nat (by omega)
  have hR : numR s bad = (x, r, bad):= by unfold numR; rw [hrd]
  rw [hR]
  refine pushC_of_codeW (fn := Tryz.f35) (c := bodyC Tryz.f35) Tryz.func35 rfl ?_
  show codeW P 35 73 none _ _ _ _ _
  refine codeW_root ?_
  repeat' (first | ((with_reducible refine st1 ?_); (conv => whnf); (with_reducible refine ⟨?_⟩)) | ((with_reducible refine st_dw ?_ rfl rfl ?_ ?_); exact rfl; kernel_rfl; (conv => arg 5; whnf); (conv => arg 3; whnf)) | ((with_reducible refine retW_intro rfl ?_); (conv => arg 2; whnf)) | ((with_reducible first | refine iB ?_ ?_ | refine gWt ?_ ?_ | refine gWf ?_ ?_ | refine gXt ?_ ?_ | refine gXf ?_ ?_) <;> intro hb <;> (try simp only [hb])) | ((with_reducible show drawI _ _ _ _ _ _ _ _ _); first | ((with_reducible refine kI_rd ?_ ?_); exact rfl) | ((with_reducible apply kI_rg); exact rfl; exact rfl) | ((with_reducible refine kI_cv ?_ ?_ ?_); exact rfl; kernel_rfl) | ((with_reducible apply kI_al); exact rfl; exact rfl) | ((with_reducible refine kI_ex ?_ ?_ ?_ ?_ ?_); exact rfl; kernel_rfl; exact rfl) | ((with_reducible apply kI_eg); exact rfl; kernel_rfl; exact rfl) | ((with_reducible refine kI_nl ?_ ?_))) | ((with_reducible show eOk _ _ _ _ _ _); first | (exact eok_nil) | (refine ke_rd ?_ ?_ ?_; exact rfl) | (apply ke_rg; exact rfl; exact rfl) | (refine ke_cv ?_ ?_ ?_ ?_; exact rfl; kernel_rfl) | (apply ke_fl; exact rfl) | (apply ke_al; exact rfl; exact rfl)) | ((with_reducible refine freshIs_new ?_); kernel_rfl) | (simp only [B, xB, F, reduceLT, reduceLeDiff, reduceEqDiff, reduceAdd, reduceMul, reduceSub, ↓reduceIte, eq_self, e0, ← h1e, cb, c0, c1, d0, ix, @ex_sl_l, cl, d1, wr, wx]))
  exact ⟨rfl, k1.set r, ((o1.s1 (Og.refl _ [b])).sts (.inl (by simp)))⟩
 have d1 : decide (x < 248) = false := decide_eq_false q1
 rw [if_neg q1] at hrd
 obtain ⟨kk, hkk⟩ : ∃ kk, kk = x - 247 := ⟨_, rfl⟩
 rw [← hkk] at hrd
 have wk0 : wrapF .i64 (Int.ofNat x) = Int.ofNat x := by
  have := i64_add (a := x) (b := 0) (by omega)
  simpa using this
 have wk : wrapF .i64 (Int.ofNat x - Int.ofNat 247) = Int.ofNat kk:= by rw [hkk]; exact i64_sub (by omega) (by omega)
 by_cases q2 : r.length < kk
 ·have d2 : decide (r.length < kk) = true := decide_eq_true q2
  rw [if_pos (.inl q2)] at hrd
  have hR : numR s bad = (0, [], true):= by unfold numR; rw [hrd]
  rw [hR]
  refine pushC_of_codeW (fn := Tryz.f35) (c := bodyC Tryz.f35) Tryz.func35 rfl ?_
  show codeW P 35 73 none _ _ _ _ _
  refine codeW_root ?_
  repeat' (first | ((with_reducible refine st1 ?_); (conv => whnf); (with_reducible refine ⟨?_⟩)) | ((with_reducible refine st_dw ?_ rfl rfl ?_ ?_); exact rfl; kernel_rfl; (conv => arg 5; whnf); (conv => arg 3; whnf)) | ((with_reducible refine retW_intro rfl ?_); (conv => arg 2; whnf)) | ((with_reducible first | refine iB ?_ ?_ | refine gWt ?_ ?_ | refine gWf ?_ ?_ | refine gXt ?_ ?_ | refine gXf ?_ ?_) <;> intro hb <;> (try simp only [hb])) | ((with_reducible show drawI _ _ _ _ _ _ _ _ _); first | ((with_reducible refine kI_rd ?_ ?_); exact rfl) | ((with_reducible apply kI_rg); exact rfl; exact rfl) | ((with_reducible refine kI_cv ?_ ?_ ?_); exact rfl; kernel_rfl) | ((with_reducible apply kI_al); exact rfl; exact rfl) | ((with_reducible refine kI_ex ?_ ?_ ?_ ?_ ?_); exact rfl; kernel_rfl; exact rfl) | ((with_reducible apply kI_eg); exact rfl; kernel_rfl; exact rfl) | ((with_reducible refine kI_nl ?_ ?_))) | ((with_reducible show eOk _ _ _ _ _ _); first | (exact eok_nil) | (refine ke_rd ?_ ?_ ?_; exact rfl) | (apply ke_rg; exact rfl; exact rfl) | (refine ke_cv ?_ ?_ ?_ ?_; exact rfl; kernel_rfl) | (apply ke_fl; exact rfl) | (apply ke_al; exact rfl; exact rfl)) | ((with_reducible refine freshIs_new ?_); kernel_rfl) | (simp only [B, xB, F, reduceLT, reduceLeDiff, reduceEqDiff, reduceAdd, reduceMul, reduceSub, ↓reduceIte, eq_self, e0, ← h1e, cb, c0, c1, d0, ix, @ex_sl_l, cl, d1, wr, wk0, wk, d2]))
  refine ((wrongC h1 h0.nx b s bad cb k1).call P).mono P ?_
  rintro v h2 ⟨rfl, rd, o2⟩
  repeat' (first | ((with_reducible refine st1 ?_); (conv => whnf); (with_reducible refine ⟨?_⟩)) | ((with_reducible refine retW_intro rfl ?_); (conv => arg 2; whnf)) | ((with_reducible first | refine iB ?_ ?_ | refine gWt ?_ ?_ | refine gWf ?_ ?_) <;> intro hb <;> (try simp only [hb])) | (simp only [B, xB, F, reduceLT, reduceLeDiff, reduceEqDiff, reduceAdd, reduceMul, reduceSub, ↓reduceIte, eq_self]))
  exact ⟨rfl, rd, o1.s1 o2⟩
 have d2 : decide (r.length < kk) = false := decide_eq_false q2
 obtain ⟨y, hy⟩ : ∃ y, r[0]? = some y := ⟨_, List.getElem?_eq_getElem (by omega)⟩
 have iy := ix_str hy .i64
 by_cases q3 : y = 0
 ·have d3 : decide (y = 0) = true := decide_eq_true q3
  rw [if_pos (.inr (.inl (by rw [hy, q3])))] at hrd
  have hR : numR s bad = (0, [], true):= by unfold numR; rw [hrd]
  rw [hR]
  refine pushC_of_codeW (fn := Tryz.f35) (c := bodyC Tryz.f35) Tryz.func35 rfl ?_
  show codeW P 35 73 none _ _ _ _ _
  refine codeW_root ?_
  repeat' (first | ((with_reducible refine st1 ?_); (conv => whnf); (with_reducible refine ⟨?_⟩)) | ((with_reducible refine st_dw ?_ rfl rfl ?_ ?_); exact rfl; kernel_rfl; (conv => arg 5; whnf); (conv => arg 3; whnf)) | ((with_reducible refine retW_intro rfl ?_); (conv => arg 2; whnf)) | ((with_reducible first | refine iB ?_ ?_ | refine gWt ?_ ?_ | refine gWf ?_ ?_ | refine gXt ?_ ?_ | refine gXf ?_ ?_) <;> intro hb <;> (try simp only [hb])) | ((with_reducible show drawI _ _ _ _ _ _ _ _ _); first | ((with_reducible refine kI_rd ?_ ?_); exact rfl) | ((with_reducible apply kI_rg); exact rfl; exact rfl) | ((with_reducible refine kI_cv ?_ ?_ ?_); exact rfl; kernel_rfl) | ((with_reducible apply kI_al); exact rfl; exact rfl) | ((with_reducible refine kI_ex ?_ ?_ ?_ ?_ ?_); exact rfl; kernel_rfl; exact rfl) | ((with_reducible apply kI_eg); exact rfl; kernel_rfl; exact rfl) | ((with_reducible refine kI_nl ?_ ?_))) | ((with_reducible show eOk _ _ _ _ _ _); first | (exact eok_nil) | (refine ke_rd ?_ ?_ ?_; exact rfl) | (apply ke_rg; exact rfl; exact rfl) | (refine ke_cv ?_ ?_ ?_ ?_; exact rfl; kernel_rfl) | (apply ke_fl; exact rfl) | (apply ke_al; exact rfl; exact rfl)) | ((with_reducible refine freshIs_new ?_); kernel_rfl) | (simp only [B, xB, F, reduceLT, reduceLeDiff, reduceEqDiff, reduceAdd, reduceMul, reduceSub, ↓reduceIte, eq_self, e0, ← h1e, cb, c0, c1, d0, ix, @ex_sl_l, cl, d1, wr, wk0, wk, d2, iy, d3]))
  refine ((wrongC h1 h0.nx b s bad cb k1).call P).mono P ?_
  rintro v h2 ⟨rfl, rd, o2⟩
  repeat' (first | ((with_reducible refine st1 ?_); (conv => whnf); (with_reducible refine ⟨?_⟩)) | ((with_reducible refine retW_intro rfl ?_); (conv => arg 2; whnf)) | ((with_reducible first | refine iB ?_ ?_ | refine gWt ?_ ?_ | refine gWf ?_ ?_) <;> intro hb <;> (try simp only [hb])) | (simp only [B, xB, F, reduceLT, reduceLeDiff, reduceEqDiff, reduceAdd, reduceMul, reduceSub, ↓reduceIte, eq_self]))
  exact ⟨rfl, rd, o1.s1 o2⟩
 have d3 : decide (y = 0) = false := decide_eq_false q3
 refine pushC_of_codeW (fn := Tryz.f35) (c := bodyC Tryz.f35) Tryz.func35 rfl ?_
 show codeW P 35 73 none _ _ _ _ _
 refine codeW_root ?_
 repeat' (first | ((with_reducible refine st1 ?_); (conv => whnf); (with_reducible refine ⟨?_⟩)) | ((with_reducible refine st_dw ?_ rfl rfl ?_ ?_); exact rfl; kernel_rfl; (conv => arg 5; whnf); (conv => arg 3; whnf)) | ((with_reducible refine retW_intro rfl ?_); (conv => arg 2; whnf)) | ((with_reducible first | refine iB ?_ ?_ | refine gWt ?_ ?_ | refine gWf ?_ ?_ | refine gXt ?_ ?_ | refine gXf ?_ ?_) <;> intro hb <;> (try simp only [hb])) | ((with_reducible show drawI _ _ _ _ _ _ _ _ _); first | ((with_reducible refine kI_rd ?_ ?_); exact rfl) | ((with_reducible apply kI_rg); exact rfl; exact rfl) | ((with_reducible refine kI_cv ?_ ?_ ?_); exact rfl; kernel_rfl) | ((with_reducible apply kI_al); exact rfl; exact rfl) | ((with_reducible refine kI_ex ?_ ?_ ?_ ?_ ?_); exact rfl; kernel_rfl; exact rfl) | ((with_reducible apply kI_eg); exact rfl; kernel_rfl; exact rfl) | ((with_reducible refine kI_nl ?_ ?_))) | ((with_reducible show eOk _ _ _ _ _ _); first | (exact eok_nil) | (refine ke_rd ?_ ?_ ?_; exact rfl) | (apply ke_rg; exact rfl; exact rfl) | (refine ke_cv ?_ ?_ ?_ ?_; exact rfl; kernel_rfl) | (apply ke_fl; exact rfl) | (apply ke_al; exact rfl; exact rfl)) | ((with_reducible refine freshIs_new ?_); kernel_rfl) | (simp only [B, xB, F, reduceLT, reduceLeDiff, reduceEqDiff, reduceAdd, reduceMul, reduceSub, ↓reduceIte, eq_self, e0, ← h1e, cb, c0, c1, d0, ix, @ex_sl_l, cl, d1, wr, wk0, wk, d2, iy, d3]))
 refine st_loop (fun m ds tm h => ∃ i, RnI h1 h0.nx r kk m ds tm h i) kk rfl ⟨0, rfl, rfl, Nat.zero_le _, by simp only [B, xB, F, reduceLT, reduceLeDiff, reduceEqDiff, reduceAdd, reduceMul, reduceSub, ↓reduceIte, eq_self], by simp only [B, xB, F, reduceLT, reduceLeDiff, reduceEqDiff, reduceAdd, reduceMul, reduceSub, ↓reduceIte, eq_self]; rfl, by simp only [B, xB, F, reduceLT, reduceLeDiff, reduceEqDiff, reduceAdd, reduceMul, reduceSub, ↓reduceIte, eq_self], by simp only [B, xB, F, reduceLT, reduceLeDiff, reduceEqDiff, reduceAdd, reduceMul, reduceSub, ↓reduceIte, eq_self], by simp only [B, xB, F, reduceLT, reduceLeDiff, reduceEqDiff, reduceAdd, reduceMul, reduceSub, ↓reduceIte, eq_self], by simp only [B, xB, F, reduceLT, reduceLeDiff, reduceEqDiff, reduceAdd, reduceMul, reduceSub, ↓reduceIte, eq_self], by simp only [B, xB, F, reduceLT, reduceLeDiff, reduceEqDiff, reduceAdd, reduceMul, reduceSub, ↓reduceIte, eq_self], rfl⟩ (fun m ds tm h hI => ?_)
 obtain ⟨i, rfl, rfl, ii, t1, t2, t3, t5, t6, t50, t51, rfl⟩ := hI
 by_cases hi : i < kk
 ·have di : decide (i < kk) = true := decide_eq_true hi
  obtain ⟨z, hz1⟩ : ∃ z, r[i]? = some z := ⟨_, List.getElem?_eq_getElem (by omega)⟩
  have iz := ix_str hz1 .i64
  have hz256 : z < 256 := hrb z (List.mem_of_getElem? hz1)
  have hsn := num256_s hz1
  obtain ⟨n, hn⟩ : ∃ n, n = num256 (r.take i) := ⟨_, rfl⟩
  rw [← hn] at t2 hsn
  have hlt : n < 256 ^ 7 := by
   rw [hn]
   refine Nat.lt_of_lt_of_le (num256_lt (r.take i) (fun c hc => hrb c (List.mem_of_mem_take hc))) (Nat.pow_le_pow_right (by omega) ?_)
   rw [List.length_take]; omega
  have h7 : (256 : Nat) ^ 7 = 72057594037927936:= by decide
  rw [h7] at hlt
  have wsh : wrapF .u64 (Int.ofNat n * Int.ofNat (2 ^ min 8 IntKind.u64.bits)) = Int.ofNat (n * 256) := by
   have : Int.ofNat n * Int.ofNat (2 ^ min 8 IntKind.u64.bits) = Int.ofNat (n * 256) := rfl
   rw [this]; exact u64_nat (by omega)
  have wz : wrapF .u64 (Int.ofNat z) = Int.ofNat z := u64_nat (by omega)
  have wo := or256 hlt hz256
  have wi : wrapF .i64 (Int.ofNat i + Int.ofNat 1) = Int.ofNat (i + 1) := i64_add (by omega)
  repeat' (first | ((with_reducible refine st1 ?_); (conv => whnf); (with_reducible refine ⟨?_⟩)) | ((with_reducible refine retW_intro rfl ?_); (conv => arg 2; whnf)) | ((with_reducible first | refine iB ?_ ?_ | refine gWt ?_ ?_ | refine gWf ?_ ?_) <;> intro hb <;> (try simp only [hb])) | (simp only [B, xB, F, reduceLT, reduceLeDiff, reduceEqDiff, reduceAdd, reduceMul, reduceSub, ↓reduceIte, eq_self, t1, t2, t3, t5, t6, t50, t51, di, @b_shl, @b_or, iz, wsh, wz, wo, wi]))
  exact ⟨kk - (i + 1), by omega, i + 1, rfl, rfl, by omega, by simp only [B, xB, F, reduceLT, reduceLeDiff, reduceEqDiff, reduceAdd, reduceMul, reduceSub, ↓reduceIte, eq_self, t1], by rw [hsn]; simp only [B, xB, F, reduceLT, reduceLeDiff, reduceEqDiff, reduceAdd, reduceMul, reduceSub, ↓reduceIte, eq_self], by simp only [B, xB, F, reduceLT, reduceLeDiff, reduceEqDiff, reduceAdd, reduceMul, reduceSub, ↓reduceIte, eq_self, t3], by simp only [B, xB, F, reduceLT, reduceLeDiff, reduceEqDiff, reduceAdd, reduceMul, reduceSub, ↓reduceIte, eq_self, t5], by simp only [B, xB, F, reduceLT, reduceLeDiff, reduceEqDiff, reduceAdd, reduceMul, reduceSub, ↓reduceIte, eq_self, t6], by simp only [B, xB, F, reduceLT, reduceLeDiff, reduceEqDiff, reduceAdd, reduceMul, reduceSub, ↓reduceIte, eq_self, t50], by simp only [B, xB, F, reduceLT, reduceLeDiff, reduceEqDiff, reduceAdd, reduceMul, reduceSub, ↓reduceIte, eq_self], rfl⟩
 ·have di : decide (i < kk) = false := decide_eq_false hi
  obtain rfl : i = kk:= by omega
  by_cases q4 : num256 (r.take i) < 248
  ·have d4 : decide (num256 (r.take i) < 248) = true := decide_eq_true q4
   rw [if_pos (.inr (.inr q4))] at hrd
   have hR : numR s bad = (0, [], true):= by unfold numR; rw [hrd]
   rw [hR]
   repeat' (first | ((with_reducible refine st1 ?_); (conv => whnf); (with_reducible refine ⟨?_⟩)) | ((with_reducible refine retW_intro rfl ?_); (conv => arg 2; whnf)) | ((with_reducible first | refine iB ?_ ?_ | refine gWt ?_ ?_ | refine gWf ?_ ?_) <;> intro hb <;> (try simp only [hb])) | (simp only [B, xB, F, reduceLT, reduceLeDiff, reduceEqDiff, reduceAdd, reduceMul, reduceSub, ↓reduceIte, eq_self, t1, t2, t3, t5, t6, t50, t51, di, d4]))
   refine ((wrongC h h0.nx b s bad cb k1).call P).mono P ?_
   rintro v h2 ⟨rfl, rd, o2⟩
   repeat' (first | ((with_reducible refine st1 ?_); (conv => whnf); (with_reducible refine ⟨?_⟩)) | ((with_reducible refine retW_intro rfl ?_); (conv => arg 2; whnf)) | ((with_reducible first | refine iB ?_ ?_ | refine gWt ?_ ?_ | refine gWf ?_ ?_) <;> intro hb <;> (try simp only [hb])) | (simp only [B, xB, F, reduceLT, reduceLeDiff, reduceEqDiff, reduceAdd, reduceMul, reduceSub, ↓reduceIte, eq_self]))
   exact ⟨rfl, rd, o1.s1 o2⟩
  ·have d4 : decide (num256 (r.take i) < 248) = false := decide_eq_false q4
   rw [if_neg (by rintro (q | q | q); exact absurd q q2; exact q3 (by rw [hy] at q; exact Option.some.inj q); exact q4 q)] at hrd
   have hR : numR s bad = (num256 (r.take i), r.drop i, bad):= by unfold numR; rw [hrd]
   rw [hR]
   have ck := cut_loK r i .i64 (by omega)
   repeat' (first | ((with_reducible refine st1 ?_); (conv => whnf); (with_reducible refine ⟨?_⟩)) | ((with_reducible refine st_dw ?_ rfl rfl ?_ ?_); exact rfl; kernel_rfl; (conv => arg 5; whnf); (conv => arg 3; whnf)) | ((with_reducible refine retW_intro rfl ?_); (conv => arg 2; whnf)) | ((with_reducible first | refine iB ?_ ?_ | refine gWt ?_ ?_ | refine gWf ?_ ?_ | refine gXt ?_ ?_ | refine gXf ?_ ?_) <;> intro hb <;> (try simp only [hb])) | ((with_reducible show drawI _ _ _ _ _ _ _ _ _); first | ((with_reducible refine kI_rd ?_ ?_); exact rfl) | ((with_reducible apply kI_rg); exact rfl; exact rfl) | ((with_reducible refine kI_cv ?_ ?_ ?_); exact rfl; kernel_rfl) | ((with_reducible apply kI_al); exact rfl; exact rfl) | ((with_reducible refine kI_ex ?_ ?_ ?_ ?_ ?_); exact rfl; kernel_rfl; exact rfl) | ((with_reducible apply kI_eg); exact rfl; kernel_rfl; exact rfl) | ((with_reducible refine kI_nl ?_ ?_))) | ((with_reducible show eOk _ _ _ _ _ _); first | (exact eok_nil) | (refine ke_rd ?_ ?_ ?_; exact rfl) | (apply ke_rg; exact rfl; exact rfl) | (refine ke_cv ?_ ?_ ?_ ?_; exact rfl; kernel_rfl) | (apply ke_fl; exact rfl) | (apply ke_al; exact rfl; exact rfl)) | ((with_reducible refine freshIs_new ?_); kernel_rfl) | (simp only [B, xB, F, reduceLT, reduceLeDiff, reduceEqDiff, reduceAdd, reduceMul, reduceSub, ↓reduceIte, eq_self, t1, t2, t3, t5, t6, t50, t51, di, d4, cb, @ex_sl_l, ck, wr, c0]))
   exact ⟨rfl, k1.set _, ((o1.s1 (Og.refl _ [b])).sts (.inl (by simp)))⟩
end
end Go.Proofs.YtllmfnedkhiomaaGreatDoor.S

namespace Go.Proofs.YtllmfnedkhiomaaGreatDoor.S
open Go Go.AX
noncomputable section
set_option maxRecDepth 100000
theorem numR_by {s : List Nat} {bad : Bool} (hs : isBy s) (hz : s.length < 1000000) : isBy (numR s bad).2.1 ∧ (numR s bad).2.1.length < 1000000 ∧ (numR s bad).1 < M64 := by
 have hM : M64 = 18446744073709551616 := rfl
 unfold numR
 cases s with
 | nil => exact ⟨fun c hc => (by cases hc), by simp [rdNum], by simp [rdNum, hM]⟩
 | cons x r =>
  have hx := hs x (by simp)
  have hr : isBy r := fun c hc => hs c (by simp [hc])
  have hrl : r.length < 1000000:= by simp at hz; omega
  have hrd := rdNum_at (s := x :: r) (x := x) rfl
  rw [show (x :: r).drop 1 = r from rfl] at hrd
  rw [hrd]
  by_cases q1 : x < 248
  ·rw [if_pos q1]; exact ⟨hr, hrl, by simp only; omega⟩
  ·rw [if_neg q1]
   by_cases q2 : r.length < x - 247 ∨ r[0]? = some 0 ∨ num256 (List.take (x - 247) r) < 248
   ·rw [if_pos q2]
    exact ⟨fun c hc => (by cases hc), by simp, by simp [hM]⟩
   ·rw [if_neg q2]
    refine ⟨fun c hc => hr c (List.mem_of_mem_drop hc), by simp only [List.length_drop]; omega, ?_⟩
    simp only
    refine Nat.lt_of_lt_of_le (num256_lt _ (fun c hc => hr c (List.mem_of_mem_take hc))) ?_
    have : (256 : Nat) ^ 8 = M64:= by decide
    rw [← this]
    exact Nat.pow_le_pow_right (by omega) (by rw [List.length_take]; omega)
structure TextPost (h0 : H) (b : Nat) (x : List Nat × List Nat × Bool) (v : AV) (h' : H) : Prop where
 v : v = .str x.1
 rd : RdAt h' b x.2.1 x.2.2
 oo : Og h0 h' [b]
theorem textC (h0 : H) (b : Nat) (s : List Nat) (bad : Bool) (k : RdAt h0 b s bad) (hs : isBy s) (hz : s.length < 1000000) : PushC P (.enter 36 [.ptr b 0] h0) (TextPost h0 b (textR s bad)) := by
 have e0 : bytesOf { data := #[] } = [] := rfl
 obtain ⟨hb, hl, hn⟩ := numR_by (bad := bad) hs hz
 have hM : M64 = 18446744073709551616 := rfl
 refine pushC_of_codeW (fn := Tryz.f36) (c := bodyC Tryz.f36) Tryz.func36 rfl ?_
 show codeW P 36 38 none _ _ _ _ _
 refine codeW_root ?_
 repeat' (first | ((with_reducible refine st1 ?_); (conv => whnf); (with_reducible refine ⟨?_⟩)) | ((with_reducible refine retW_intro rfl ?_); (conv => arg 2; whnf)) | ((with_reducible first | refine iB ?_ ?_ | refine gWt ?_ ?_ | refine gWf ?_ ?_) <;> intro hb <;> (try simp only [hb])) | (simp only [B, F, reduceLT, reduceLeDiff, reduceEqDiff, reduceAdd, reduceMul, reduceSub, ↓reduceIte, eq_self, e0]))
 refine ((numC h0 b s bad k hs hz).call P).mono P ?_
 rintro v h1 ⟨rfl, k1, o1⟩
 unfold textR
 obtain ⟨n, hn1⟩ : ∃ n, n = (numR s bad).1 := ⟨_, rfl⟩
 obtain ⟨r, hr1⟩ : ∃ r, r = (numR s bad).2.1 := ⟨_, rfl⟩
 obtain ⟨bd, hb1⟩ : ∃ bd, bd = (numR s bad).2.2 := ⟨_, rfl⟩
 rw [← hn1, ← hr1, ← hb1]
 rw [← hr1, ← hb1] at k1
 rw [← hr1] at hl
 rw [← hn1] at hn
 have c0 := k1.c0
 have c1 := k1.c1
 have wr := k1.wr
 have wl : wrapF .u64 (Int.ofNat r.length) = Int.ofNat r.length := u64_nat (by omega)
 by_cases q : r.length < n
 ·have d1 : decide (r.length < n) = true := decide_eq_true q
  rw [if_pos q]
  repeat' (first | ((with_reducible refine st1 ?_); (conv => whnf); (with_reducible refine ⟨?_⟩)) | ((with_reducible refine retW_intro rfl ?_); (conv => arg 2; whnf)) | ((with_reducible first | refine iB ?_ ?_ | refine gWt ?_ ?_ | refine gWf ?_ ?_) <;> intro hb <;> (try simp only [hb])) | (simp only [B, F, reduceLT, reduceLeDiff, reduceEqDiff, reduceAdd, reduceMul, reduceSub, ↓reduceIte, eq_self, e0, c0, c1, wr, wl, d1]))
  exact ⟨rfl, k1.bad, o1.sts (.inl (by simp))⟩
 ·have d1 : decide (r.length < n) = false := decide_eq_false q
  have ch := cut_hiK r n .u64 (by omega)
  have cl := cut_loK r n .u64 (by omega)
  rw [if_neg q]
  repeat' (first | ((with_reducible refine st1 ?_); (conv => whnf); (with_reducible refine ⟨?_⟩)) | ((with_reducible refine retW_intro rfl ?_); (conv => arg 2; whnf)) | ((with_reducible first | refine iB ?_ ?_ | refine gWt ?_ ?_ | refine gWf ?_ ?_) <;> intro hb <;> (try simp only [hb])) | (simp only [B, F, reduceLT, reduceLeDiff, reduceEqDiff, reduceAdd, reduceMul, reduceSub, ↓reduceIte, eq_self, e0, c0, c1, wr, wl, d1, @ex_sl_h, @ex_sl_l, ch, cl]))
  exact ⟨rfl, k1.set _, o1.sts (.inl (by simp))⟩
theorem okC (h0 : H) (b : Nat) (s : List Nat) (bad : Bool) (k : RdAt h0 b s bad) : PushC P (.enter 59 [.ptr b 0] h0) (SaysG h0 (.bool (!bad))) := by
 have c1 := k.c1
 cases bad with
 | true =>
  refine pushC_of_codeW (fn := Tryz.f59) (c := bodyC Tryz.f59) Tryz.func59 rfl ?_
  show codeW P 59 12 none _ _ _ _ _
  refine codeW_root ?_
  repeat' (first | ((with_reducible refine st1 ?_); (conv => whnf); (with_reducible refine ⟨?_⟩)) | ((with_reducible refine retW_intro rfl ?_); (conv => arg 2; whnf)) | ((with_reducible first | refine iB ?_ ?_ | refine gWt ?_ ?_ | refine gWf ?_ ?_) <;> intro hb <;> (try simp only [hb])) | (simp only [B, F, reduceLT, reduceLeDiff, reduceEqDiff, reduceAdd, reduceMul, reduceSub, ↓reduceIte, eq_self, c1, Bool.not_true]))
  exact ⟨rfl, Og.refl _ _⟩
 | false =>
  refine pushC_of_codeW (fn := Tryz.f59) (c := bodyC Tryz.f59) Tryz.func59 rfl ?_
  show codeW P 59 12 none _ _ _ _ _
  refine codeW_root ?_
  repeat' (first | ((with_reducible refine st1 ?_); (conv => whnf); (with_reducible refine ⟨?_⟩)) | ((with_reducible refine retW_intro rfl ?_); (conv => arg 2; whnf)) | ((with_reducible first | refine iB ?_ ?_ | refine gWt ?_ ?_ | refine gWf ?_ ?_) <;> intro hb <;> (try simp only [hb])) | (simp only [B, F, reduceLT, reduceLeDiff, reduceEqDiff, reduceAdd, reduceMul, reduceSub, ↓reduceIte, eq_self, c1, Bool.not_false]))
  exact ⟨rfl, Og.refl _ _⟩
theorem endC (h0 : H) (b : Nat) (s : List Nat) (bad : Bool) (k : RdAt h0 b s bad) : PushC P (.enter 37 [.ptr b 0] h0) (SaysG h0 (.bool (!bad && decide (s = [])))) := by
 have e0 : bytesOf { data := #[] } = [] := rfl
 refine pushC_of_codeW (fn := Tryz.f37) (c := bodyC Tryz.f37) Tryz.func37 rfl ?_
 show codeW P 37 12 none _ _ _ _ _
 refine codeW_root ?_
 repeat' (first | ((with_reducible refine st1 ?_); (conv => whnf); (with_reducible refine ⟨?_⟩)) | ((with_reducible refine retW_intro rfl ?_); (conv => arg 2; whnf)) | ((with_reducible first | refine iB ?_ ?_ | refine gWt ?_ ?_ | refine gWf ?_ ?_) <;> intro hb <;> (try simp only [hb])) | (simp only [B, F, reduceLT, reduceLeDiff, reduceEqDiff, reduceAdd, reduceMul, reduceSub, ↓reduceIte, eq_self]))
 refine ((okC h0 b s bad k).call P).mono P ?_
 rintro v h1 ⟨rfl, o1⟩
 have c0 := (k.keep o1 (by simp)).c0
 cases bad with
 | true =>
  repeat' (first | ((with_reducible refine st1 ?_); (conv => whnf); (with_reducible refine ⟨?_⟩)) | ((with_reducible refine retW_intro rfl ?_); (conv => arg 2; whnf)) | ((with_reducible first | refine iB ?_ ?_ | refine gWt ?_ ?_ | refine gWf ?_ ?_) <;> intro hb <;> (try simp only [hb])) | (simp only [B, F, reduceLT, reduceLeDiff, reduceEqDiff, reduceAdd, reduceMul, reduceSub, ↓reduceIte, eq_self, Bool.not_true]))
  exact ⟨rfl, o1⟩
 | false =>
  repeat' (first | ((with_reducible refine st1 ?_); (conv => whnf); (with_reducible refine ⟨?_⟩)) | ((with_reducible refine retW_intro rfl ?_); (conv => arg 2; whnf)) | ((with_reducible first | refine iB ?_ ?_ | refine gWt ?_ ?_ | refine gWf ?_ ?_) <;> intro hb <;> (try simp only [hb])) | (simp only [B, F, reduceLT, reduceLeDiff, reduceEqDiff, reduceAdd, reduceMul, reduceSub, ↓reduceIte, eq_self, Bool.not_false, e0, c0]))
  exact ⟨rfl, o1⟩
theorem readerC (h0 : H) (s : List Nat) : PushC P (.enter 34 [.str s] h0) fun v h' => v = .ptr h0.nx 0 ∧ h' = h0.newCells 108 [.str s, .bool false] := by
 refine pushC_of_codeW (fn := Tryz.f34) (c := bodyC Tryz.f34) Tryz.func34 rfl ?_
 show codeW P 34 6 none _ _ _ _ _
 refine codeW_root ?_
 repeat' (first | ((with_reducible refine st1 ?_); (conv => whnf); (with_reducible refine ⟨?_⟩)) | ((with_reducible refine retW_intro rfl ?_); (conv => arg 2; whnf)) | ((with_reducible first | refine iB ?_ ?_ | refine gWt ?_ ?_ | refine gWf ?_ ?_) <;> intro hb <;> (try simp only [hb])) | (simp only [B, F, reduceLT, reduceLeDiff, reduceEqDiff, reduceAdd, reduceMul, reduceSub, ↓reduceIte, eq_self]))
def readV (s : List Nat) : Nat × List Nat := ((numR s false).1, (textR (numR s false).2.1 (numR s false).2.2).1)
def readOk (s : List Nat) : Bool := !(textR (numR s false).2.1 (numR s false).2.2).2.2 && decide ((textR (numR s false).2.1 (numR s false).2.2).2.1 = []) && decide (0 < (readV s).1) && decide ((readV s).2.length ≤ 4000)
theorem readC (h0 : H) (s : List Nat) (hs : isBy s) (hz : s.length < 1000000) : PushC P (.enter 19 [.str s] h0) (SaysG h0 (.tuple [.agg [.int .u64 (.ofNat (readV s).1), .str (readV s).2], .bool (readOk s)])) := by
 have e0 : bytesOf { data := #[] } = [] := rfl
 obtain ⟨hb, hl, hn⟩ := numR_by (bad := false) hs hz
 refine pushC_of_codeW (fn := Tryz.f19) (c := bodyC Tryz.f19) Tryz.func19 rfl ?_
 show codeW P 19 27 none _ _ _ _ _
 refine codeW_root ?_
 repeat' (first | ((with_reducible refine st1 ?_); (conv => whnf); (with_reducible refine ⟨?_⟩)) | ((with_reducible refine retW_intro rfl ?_); (conv => arg 2; whnf)) | ((with_reducible first | refine iB ?_ ?_ | refine gWt ?_ ?_ | refine gWf ?_ ?_) <;> intro hb <;> (try simp only [hb])) | (simp only [B, xB, F, reduceLT, reduceLeDiff, reduceEqDiff, reduceAdd, reduceMul, reduceSub, ↓reduceIte, eq_self, e0]))
 obtain ⟨h1, h1e⟩ : ∃ h1, h1 = h0.newCells 65 [.int .u64 (.ofNat 0), .str []] := ⟨_, rfl⟩
 have o1 : Og h0 h1 []:= by rw [h1e]; exact (Og.refl _ _).new _ _
 rw [← h1e]
 refine ((readerC h1 s).call P).mono P ?_
 rintro v h2 ⟨rfl, rfl⟩
 obtain ⟨h2, h2e⟩ : ∃ h2, h2 = h1.newCells 108 [.str s, .bool false] := ⟨_, rfl⟩
 have o2 : Og h1 h2 []:= by rw [h2e]; exact (Og.refl _ _).new _ _
 have x2 : h2.nx = h1.nx + 1:= by rw [h2e]; rfl
 have x1 : h1.nx = h0.nx + 1:= by rw [h1e]; rfl
 have k2 : RdAt h2 h1.nx s false := ⟨by omega, by rw [h2e, cellAt_new, if_pos rfl]; rfl, by rw [h2e, cellAt_new, if_pos rfl]; rfl, by rw [h2e, wrAt_new, if_pos rfl]⟩
 have z0 : cellAt h2 h0.nx 0 = some (.int .u64 (.ofNat 0)) := kc (b := h0.nx) (i := 0) (h := h1) (by rw [h1e, cellAt_new, if_pos rfl]; rfl) o2 (by omega) (by simp)
 have z1 : cellAt h2 h0.nx 1 = some (.str []) := kc (b := h0.nx) (i := 1) (h := h1) (by rw [h1e, cellAt_new, if_pos rfl]; rfl) o2 (by omega) (by simp)
 have zw : wrAt h2 h0.nx = true := kw (h := h1) (by rw [h1e, wrAt_new, if_pos rfl]) o2 (by omega) (by simp)
 rw [← h2e]
 repeat' (first | ((with_reducible refine st1 ?_); (conv => whnf); (with_reducible refine ⟨?_⟩)) | ((with_reducible refine retW_intro rfl ?_); (conv => arg 2; whnf)) | ((with_reducible first | refine iB ?_ ?_ | refine gWt ?_ ?_ | refine gWf ?_ ?_) <;> intro hb <;> (try simp only [hb])) | (simp only [B, xB, F, reduceLT, reduceLeDiff, reduceEqDiff, reduceAdd, reduceMul, reduceSub, ↓reduceIte, eq_self]))
 refine ((numC h2 h1.nx s false k2 hs hz).call P).mono P ?_
 rintro v h3 ⟨rfl, k3, o3⟩
 repeat' (first | ((with_reducible refine st1 ?_); (conv => whnf); (with_reducible refine ⟨?_⟩)) | ((with_reducible refine retW_intro rfl ?_); (conv => arg 2; whnf)) | ((with_reducible first | refine iB ?_ ?_ | refine gWt ?_ ?_ | refine gWf ?_ ?_) <;> intro hb <;> (try simp only [hb])) | (simp only [B, xB, F, reduceLT, reduceLeDiff, reduceEqDiff, reduceAdd, reduceMul, reduceSub, ↓reduceIte, eq_self]))
 refine ((textC h3 h1.nx _ _ k3 hb hl).call P).mono P ?_
 rintro v h4 ⟨rfl, k4, o4⟩
 have hread : readV s = ((numR s false).1, (textR (numR s false).2.1 (numR s false).2.2).1) := rfl
 unfold readOk
 obtain ⟨n, hn1⟩ : ∃ n, n = (readV s).1 := ⟨_, rfl⟩
 obtain ⟨r, hr1⟩ : ∃ r, r = (readV s).2 := ⟨_, rfl⟩
 rw [← hn1, ← hr1]
 rw [hread] at hn1 hr1
 simp only at hn1 hr1
 rw [← hn1, ← hr1]
 obtain ⟨x, hx⟩ : ∃ x, x = textR (numR s false).2.1 (numR s false).2.2 := ⟨_, rfl⟩
 rw [← hx] at k4 ⊢
 have o34 := o3.s2 o4
 have x4 := o34.1.1
 have y0 := kc z0 o34 (by omega) (by simp; omega)
 have y1 := kc z1 o34 (by omega) (by simp; omega)
 have yw := kw zw o34 (by omega) (by simp; omega)
 obtain ⟨h5, h5e⟩ : ∃ h5, h5 = (h4.newCells 65 [.int .u64 (.ofNat 0), .str []]).sts h4.nx 0 [.int .u64 (.ofNat n), .str r] := ⟨_, rfl⟩
 have o5 : Og h4 h5 []:= by rw [h5e]; exact ((Og.refl _ _).new _ _).sts (.inr (Nat.le_refl _))
 have w0 : cellAt h5 h4.nx 0 = some (.int .u64 (.ofNat n)):= by rw [h5e, cellAt_sts (by rw [wrAt_new, if_pos rfl]), if_pos ⟨rfl, Nat.zero_le _, by simp⟩]; rfl
 have w1 : cellAt h5 h4.nx 1 = some (.str r):= by rw [h5e, cellAt_sts (by rw [wrAt_new, if_pos rfl]), if_pos ⟨rfl, Nat.zero_le _, by simp⟩]; rfl
 have x5 : h5.nx = h4.nx + 1:= by rw [h5e, nx_sts, nx_new]
 have k5 := k4.keep o5 (by simp)
 repeat' (first | ((with_reducible refine st1 ?_); (conv => whnf); (with_reducible refine ⟨?_⟩)) | ((with_reducible refine st_dw ?_ rfl rfl ?_ ?_); exact rfl; kernel_rfl; (conv => arg 5; whnf); (conv => arg 3; whnf)) | ((with_reducible refine retW_intro rfl ?_); (conv => arg 2; whnf)) | ((with_reducible first | refine iB ?_ ?_ | refine gWt ?_ ?_ | refine gWf ?_ ?_ | refine gXt ?_ ?_ | refine gXf ?_ ?_) <;> intro hb <;> (try simp only [hb])) | ((with_reducible show drawI _ _ _ _ _ _ _ _ _); first | ((with_reducible refine kI_rd ?_ ?_); exact rfl) | ((with_reducible apply kI_rg); exact rfl; exact rfl) | ((with_reducible refine kI_cv ?_ ?_ ?_); exact rfl; kernel_rfl) | ((with_reducible apply kI_al); exact rfl; exact rfl) | ((with_reducible refine kI_ex ?_ ?_ ?_ ?_ ?_); exact rfl; kernel_rfl; exact rfl) | ((with_reducible apply kI_eg); exact rfl; kernel_rfl; exact rfl) | ((with_reducible refine kI_nl ?_ ?_))) | ((with_reducible show eOk _ _ _ _ _ _); first | (exact eok_nil) | (refine ke_rd ?_ ?_ ?_; exact rfl) | (apply ke_rg; exact rfl; exact rfl) | (refine ke_cv ?_ ?_ ?_ ?_; exact rfl; kernel_rfl) | (apply ke_fl; exact rfl) | (apply ke_al; exact rfl; exact rfl)) | ((with_reducible refine freshIs_new ?_); kernel_rfl) | (simp only [B, xB, F, reduceLT, reduceLeDiff, reduceEqDiff, reduceAdd, reduceMul, reduceSub, ↓reduceIte, eq_self, ← h5e, w0, w1]))
 refine ((endC h5 h1.nx _ _ k5).call P).mono P ?_
 rintro v h6 ⟨rfl, o6⟩
 have x6 := o6.1.1
 have u0 := kc w0 o6 (by omega) (by simp)
 have u1 := kc w1 o6 (by omega) (by simp)
 have t0 := kc (kc y0 o5 (by omega) (by simp)) o6 (by omega) (by simp)
 have t1 := kc (kc y1 o5 (by omega) (by simp)) o6 (by omega) (by simp)
 have tw := kw (kw yw o5 (by omega) (by simp)) o6 (by omega) (by simp)
 have oo : Og h0 h6 [] := ⟨⟨by omega, fun c hc _ => by rw [o6.1.2 c (by omega) (by simp), o5.1.2 c (by omega) (by simp), o34.1.2 c (by omega) (by simp; omega), o2.1.2 c (by omega) (by simp), o1.1.2 c hc (by simp)]⟩, by rw [o6.2, o5.2, o34.2, o2.2, o1.2]⟩
 have n0 : h0.nx ≠ h1.nx:= by omega
 have n4 : h0.nx ≠ h4.nx:= by omega
 obtain ⟨be, hbe⟩ : ∃ be, be = (!x.2.2 && decide (x.2.1 = [])) := ⟨_, rfl⟩
 rw [← hbe]
 cases be with
 | false =>
  repeat' (first | ((with_reducible refine st1 ?_); (conv => whnf); (with_reducible refine ⟨?_⟩)) | ((with_reducible refine st_dw ?_ rfl rfl ?_ ?_); exact rfl; kernel_rfl; (conv => arg 5; whnf); (conv => arg 3; whnf)) | ((with_reducible refine retW_intro rfl ?_); (conv => arg 2; whnf)) | ((with_reducible first | refine iB ?_ ?_ | refine gWt ?_ ?_ | refine gWf ?_ ?_ | refine gXt ?_ ?_ | refine gXf ?_ ?_) <;> intro hb <;> (try simp only [hb])) | ((with_reducible show drawI _ _ _ _ _ _ _ _ _); first | ((with_reducible refine kI_rd ?_ ?_); exact rfl) | ((with_reducible apply kI_rg); exact rfl; exact rfl) | ((with_reducible refine kI_cv ?_ ?_ ?_); exact rfl; kernel_rfl) | ((with_reducible apply kI_al); exact rfl; exact rfl) | ((with_reducible refine kI_ex ?_ ?_ ?_ ?_ ?_); exact rfl; kernel_rfl; exact rfl) | ((with_reducible apply kI_eg); exact rfl; kernel_rfl; exact rfl) | ((with_reducible refine kI_nl ?_ ?_))) | ((with_reducible show eOk _ _ _ _ _ _); first | (exact eok_nil) | (refine ke_rd ?_ ?_ ?_; exact rfl) | (apply ke_rg; exact rfl; exact rfl) | (refine ke_cv ?_ ?_ ?_ ?_; exact rfl; kernel_rfl) | (apply ke_fl; exact rfl) | (apply ke_al; exact rfl; exact rfl)) | ((with_reducible refine freshIs_new ?_); kernel_rfl) | (simp only [B, xB, F, reduceLT, reduceLeDiff, reduceEqDiff, reduceAdd, reduceMul, reduceSub, ↓reduceIte, eq_self, u0, u1, t0, t1, tw, @ite_self]))
  refine ⟨rfl, oo.sts (.inr (Nat.le_refl _))⟩
 | true =>
  by_cases q1 : 0 < n
  ·have d1 : decide (0 < n) = true := decide_eq_true q1
   repeat' (first | ((with_reducible refine st1 ?_); (conv => whnf); (with_reducible refine ⟨?_⟩)) | ((with_reducible refine st_dw ?_ rfl rfl ?_ ?_); exact rfl; kernel_rfl; (conv => arg 5; whnf); (conv => arg 3; whnf)) | ((with_reducible refine retW_intro rfl ?_); (conv => arg 2; whnf)) | ((with_reducible first | refine iB ?_ ?_ | refine gWt ?_ ?_ | refine gWf ?_ ?_ | refine gXt ?_ ?_ | refine gXf ?_ ?_) <;> intro hb <;> (try simp only [hb])) | ((with_reducible show drawI _ _ _ _ _ _ _ _ _); first | ((with_reducible refine kI_rd ?_ ?_); exact rfl) | ((with_reducible apply kI_rg); exact rfl; exact rfl) | ((with_reducible refine kI_cv ?_ ?_ ?_); exact rfl; kernel_rfl) | ((with_reducible apply kI_al); exact rfl; exact rfl) | ((with_reducible refine kI_ex ?_ ?_ ?_ ?_ ?_); exact rfl; kernel_rfl; exact rfl) | ((with_reducible apply kI_eg); exact rfl; kernel_rfl; exact rfl) | ((with_reducible refine kI_nl ?_ ?_))) | ((with_reducible show eOk _ _ _ _ _ _); first | (exact eok_nil) | (refine ke_rd ?_ ?_ ?_; exact rfl) | (apply ke_rg; exact rfl; exact rfl) | (refine ke_cv ?_ ?_ ?_ ?_; exact rfl; kernel_rfl) | (apply ke_fl; exact rfl) | (apply ke_al; exact rfl; exact rfl)) | ((with_reducible refine freshIs_new ?_); kernel_rfl) | (simp only [B, xB, F, reduceLT, reduceLeDiff, reduceEqDiff, reduceAdd, reduceMul, reduceSub, ↓reduceIte, eq_self, u0, u1, t0, t1, tw, d1, @ite_self]))
   refine ⟨rfl, oo.sts (.inr (Nat.le_refl _))⟩
  ·have d1 : decide (0 < n) = false := decide_eq_false q1
   repeat' (first | ((with_reducible refine st1 ?_); (conv => whnf); (with_reducible refine ⟨?_⟩)) | ((with_reducible refine st_dw ?_ rfl rfl ?_ ?_); exact rfl; kernel_rfl; (conv => arg 5; whnf); (conv => arg 3; whnf)) | ((with_reducible refine retW_intro rfl ?_); (conv => arg 2; whnf)) | ((with_reducible first | refine iB ?_ ?_ | refine gWt ?_ ?_ | refine gWf ?_ ?_ | refine gXt ?_ ?_ | refine gXf ?_ ?_) <;> intro hb <;> (try simp only [hb])) | ((with_reducible show drawI _ _ _ _ _ _ _ _ _); first | ((with_reducible refine kI_rd ?_ ?_); exact rfl) | ((with_reducible apply kI_rg); exact rfl; exact rfl) | ((with_reducible refine kI_cv ?_ ?_ ?_); exact rfl; kernel_rfl) | ((with_reducible apply kI_al); exact rfl; exact rfl) | ((with_reducible refine kI_ex ?_ ?_ ?_ ?_ ?_); exact rfl; kernel_rfl; exact rfl) | ((with_reducible apply kI_eg); exact rfl; kernel_rfl; exact rfl) | ((with_reducible refine kI_nl ?_ ?_))) | ((with_reducible show eOk _ _ _ _ _ _); first | (exact eok_nil) | (refine ke_rd ?_ ?_ ?_; exact rfl) | (apply ke_rg; exact rfl; exact rfl) | (refine ke_cv ?_ ?_ ?_ ?_; exact rfl; kernel_rfl) | (apply ke_fl; exact rfl) | (apply ke_al; exact rfl; exact rfl)) | ((with_reducible refine freshIs_new ?_); kernel_rfl) | (simp only [B, xB, F, reduceLT, reduceLeDiff, reduceEqDiff, reduceAdd, reduceMul, reduceSub, ↓reduceIte, eq_self, u0, u1, t0, t1, tw, d1, @ite_self]))
   refine ⟨rfl, oo.sts (.inr (Nat.le_refl _))⟩
end
end Go.Proofs.YtllmfnedkhiomaaGreatDoor.S

namespace Go.Proofs.YtllmfnedkhiomaaGreatDoor.S
open Go Go.AX
noncomputable section
set_option maxRecDepth 100000
def bytesR (s : List Nat) : List AV := s.map fun c => .int .u8 (.ofNat c)
theorem bytesR_app (a b : List Nat) : bytesR (a ++ b) = bytesR a ++ bytesR b:= by unfold bytesR; rw [List.map_append]
theorem bytesR_len (a : List Nat) : (bytesR a).length = a.length:= by unfold bytesR; simp
theorem appStr {h : H} {base : Nat} {v : AV} {t : List Nat} (hg : Grows 1 base h v t.length (bytesR t)) (hb : base ≤ h.nx) (s : List Nat) (hz : t.length + s.length ≤ 1000000) {K : AV → H → Prop}
  (hk : ∀ v' h', Grows 1 base h' v' (t ++ s).length (bytesR (t ++ s)) → h.nx ≤ h'.nx → (∀ b, b < h.nx → blkOf v ≠ some b → h'.t.get b = h.t.get b) → (∀ b, blkOf v' = some b → blkOf v = some b ∨ b = h.nx) → h'.g = h.g → K v' h') :
  exW P (builtinA P .append [37, 9] [v, .str s] h) K := by
 have hi : infoOk P 5 1 = true:= by kernel_rfl
 unfold infoOk at hi
 split at hi
 ·rename_i info hinfo
  rw [Bool.and_eq_true] at hi
  have e2 := Nat.eq_of_beq_eq_true hi.2
  have hx : builtinA P .append [37, 9] [v, .str s] h = appendN 5 1 v s.length (bytesR s) h := by
   simp only [builtinA, u75a, u9a, appendA, hinfo, lenOfA, hi.1, srcA, e2, lenL_eq, List.take_length]
   rfl
  rw [hx]
  cases s with
  | nil =>
   show exW P (appendN 5 1 v 0 [] h) K
   rw [appendN_0 hg]
   exact hk v h (by simpa using hg) (Nat.le_refl _) (fun _ _ _ => rfl) (fun _ e => .inl e) rfl
  | cons c s =>
   refine exW_growsG (m := (c :: s).length) (new := bytesR (c :: s)) hg hb (by simp) (by omega) (by rw [bytesR_len]; omega) (by omega) (fun v' h' g x old bl gg => ?_)
   exact hk v' h' (by rw [List.length_append, bytesR_app]; exact g) (by omega) old (fun b e => by rw [bl] at e; cases e; exact .inr rfl) gg
 ·cases hi
abbrev Tx := Nat × List Nat × AV
def mapW (W : List Tx) : List (Nat × AV) := W.map fun x => (x.1, x.2.2)
def putW (c : Nat) (s : List Nat) (v : AV) : List Tx → List Tx
 | [] => [(c, s, v)]
 | x :: W => if c = x.1 then (c, s, v) :: W else x :: putW c s v W
def getW (c : Nat) (W : List Tx) : Option (List Nat × AV) := (W.find? fun p => decide (c = p.1)).map (·.2)
theorem get_mapW (c : Nat) : ∀ W : List Tx, mapGet c (mapW W) = (getW c W).map (·.2)
 | [] => rfl
 | p :: W => by
  have ih := get_mapW c W
  unfold mapGet mapW getW at *
  rw [List.map_cons, List.find?_cons, List.find?_cons]
  by_cases q : c = p.1
  ·simp [q]
  ·simp only [q, decide_false]; exact ih
theorem put_mapW (c : Nat) (s : List Nat) (v : AV) : ∀ W : List Tx, mapPut c v (mapW W) = mapW (putW c s v W)
 | [] => rfl
 | (a, t, w) :: W => by
  have ih := put_mapW c s v W
  unfold mapW at *
  rw [List.map_cons]
  unfold mapPut putW
  by_cases q : c = a
  ·simp [q]
  ·simp only [q, if_false, List.map_cons, ih]
theorem putW_mem {c : Nat} {s : List Nat} {v : AV} {x : Tx} : ∀ {W : List Tx}, (W.map (·.1)).Nodup → x ∈ putW c s v W → x = (c, s, v) ∨ x ∈ W ∧ x.1 ≠ c
 | [], _, h => by unfold putW at h; rw [List.mem_singleton] at h; exact .inl h
 | y :: W, nd, h => by
  rw [List.map_cons, List.nodup_cons] at nd
  unfold putW at h
  by_cases q : c = y.1
  ·rw [if_pos q] at h
   rcases List.mem_cons.1 h with h | h
   ·exact .inl h
   ·exact .inr ⟨by simp [h], fun e => nd.1 (by rw [← q, ← e]; exact List.mem_map_of_mem h)⟩
  ·rw [if_neg q] at h
   rcases List.mem_cons.1 h with rfl | h
   ·exact .inr ⟨by simp, fun e => q e.symm⟩
   ·rcases putW_mem nd.2 h with h | ⟨h1, h2⟩
    ·exact .inl h
    ·exact .inr ⟨by simp [h1], h2⟩
theorem putW_keys {c : Nat} {s : List Nat} {v : AV} : ∀ {W : List Tx}, (W.map (·.1)).Nodup → ((putW c s v W).map (·.1)).Nodup
 | [], _ => by unfold putW; simp
 | y :: W, nd => by
  rw [List.map_cons, List.nodup_cons] at nd
  unfold putW
  by_cases q : c = y.1
  ·rw [if_pos q, List.map_cons, List.nodup_cons]
   exact ⟨by rw [q]; exact nd.1, nd.2⟩
  ·rw [if_neg q, List.map_cons, List.nodup_cons]
   refine ⟨fun h => ?_, putW_keys nd.2⟩
   obtain ⟨x, hx, e⟩ := List.mem_map.1 h
   rcases putW_mem nd.2 hx with rfl | ⟨h1, _⟩
   ·exact q e
   ·exact nd.1 (by rw [← e]; exact List.mem_map_of_mem h1)
def djB (x y : Tx) : Prop := ∀ b, blkOf x.2.2 = some b → blkOf y.2.2 ≠ some b
theorem putW_dj {c : Nat} {s : List Nat} {v : AV} (h : ∀ W : List Tx, True) : ∀ {W : List Tx}, (W.map (·.1)).Nodup → W.Pairwise djB → (∀ x, x ∈ W → x.1 ≠ c → djB (c, s, v) x ∧ djB x (c, s, v)) → (putW c s v W).Pairwise djB
 | [], _, _, _ => by unfold putW; simp
 | y :: W, nd, dj, hv => by
  rw [List.map_cons, List.nodup_cons] at nd
  rw [List.pairwise_cons] at dj
  unfold putW
  by_cases q : c = y.1
  ·rw [if_pos q, List.pairwise_cons]
   exact ⟨fun x hx => (hv x (by simp [hx]) (fun e => nd.1 (by rw [← q, ← e]; exact List.mem_map_of_mem hx))).1, dj.2⟩
  ·rw [if_neg q, List.pairwise_cons]
   refine ⟨fun x hx => ?_, putW_dj h nd.2 dj.2 (fun x hx => hv x (by simp [hx]))⟩
   rcases putW_mem nd.2 hx with rfl | ⟨h1, _⟩
   ·exact (hv y (by simp) (fun e => q e.symm)).2
   ·exact dj.1 x h1
structure TxAt (h : H) (rt base : Nat) (W : List Tx) : Prop where
 mp : MapK encU h rt (mapW W)
 nd : (W.map (·.1)).Nodup
 gr : ∀ x, x ∈ W → Grows 1 base h x.2.2 x.2.1.length (bytesR x.2.1)
 dj : W.Pairwise djB
 lt : rt < base
 bs : base ≤ h.nx
theorem TxAt.keep {h h' : H} {rt base : Nat} {W : List Tx} (k : TxAt h rt base W) {S : List Nat} (o : Og h h' S) (hS : ∀ c, c ∈ S → c < base ∧ c ≠ rt) : TxAt h' rt base W :=
 ⟨k.mp.keep o.1 (fun q => (hS _ q).2 rfl), k.nd, fun x hx => (k.gr x hx).of_get o.1.1 (fun b hb => by
  have := (k.gr x hx).base hb
  exact o.1.2 b this.2 (fun q => by have := (hS _ q).1; omega)), k.dj, k.lt, Nat.le_trans k.bs o.1.1⟩
theorem getW_mem {c : Nat} {x : List Nat × AV} {W : List Tx} (h : getW c W = some x) : (c, x.1, x.2) ∈ W := by
 unfold getW at h
 rw [Option.map_eq_some_iff] at h
 obtain ⟨y, h1, h2⟩ := h
 have h3 := List.find?_some h1
 have h4 := List.mem_of_find?_eq_some h1
 simp at h3
 subst h2
 rw [h3]
 exact h4
theorem pair_ne {W : List Tx} (hd : W.Pairwise djB) {x y : Tx} (hx : x ∈ W) (hy : y ∈ W) (hne : x.1 ≠ y.1) : djB x y ∧ djB y x := by
 induction W with
 | nil => cases hx
 | cons z W ih =>
  rw [List.pairwise_cons] at hd
  have sym : ∀ {a b : Tx}, djB a b → djB b a := fun h b e1 e2 => h b e2 e1
  rcases List.mem_cons.1 hx with rfl | hx2
  ·rcases List.mem_cons.1 hy with rfl | hy2
   ·exact absurd rfl hne
   ·exact ⟨hd.1 y hy2, sym (hd.1 y hy2)⟩
  ·rcases List.mem_cons.1 hy with rfl | hy2
   ·exact ⟨sym (hd.1 x hx2), hd.1 x hx2⟩
   ·exact ih hd.2 hx2 hy2
theorem TxAt.step {h h' h'' : H} {rt base : Nat} {W : List Tx} (k : TxAt h rt base W) {c : Nat} {t s : List Nat} {v v' : AV} (hv : getW c W = some (t, v) ∨ getW c W = none ∧ t = [] ∧ v = .nilslice)
  (g : Grows 1 base h' v' (t ++ s).length (bytesR (t ++ s))) (hx : h.nx ≤ h'.nx) (old : ∀ b, b < h.nx → blkOf v ≠ some b → h'.t.get b = h.t.get b) (bl : ∀ b, blkOf v' = some b → blkOf v = some b ∨ b = h.nx)
  (m : MapK encU h'' rt (mapPut c v' (mapW W))) (o : Og h' h'' [rt]) : TxAt h'' rt base (putW c (t ++ s) v' W) := by
 have hlt : ∀ x, x ∈ W → ∀ b, blkOf x.2.2 = some b → base ≤ b ∧ b < h.nx := fun x hx b e => (k.gr x hx).base e
 have hvx : ∀ x, x ∈ W → x.1 ≠ c → ∀ b, blkOf x.2.2 = some b → blkOf v ≠ some b := fun x hx hne b e => by
  rcases hv with hv | ⟨_, _, rfl⟩
  ·exact (pair_ne k.dj hx (getW_mem hv) hne).1 b e
  ·exact fun q => by cases q
 refine ⟨by rw [← put_mapW]; exact m, putW_keys k.nd, fun x hx => ?_, putW_dj (fun _ => trivial) k.nd k.dj (fun x hx hne => ?_), k.lt, by have := k.bs; have := o.1.1; omega⟩
 ·rcases putW_mem k.nd hx with rfl | ⟨hx, hne⟩
  ·refine g.of_get o.1.1 (fun b e => o.1.2 b (g.base e).2 (by have := (g.base e).1; have := k.lt; simp; omega))
  ·refine ((k.gr x hx).of_get (by omega) (fun b e => old b (hlt x hx b e).2 (hvx x hx hne b e))).of_get o.1.1 (fun b e => o.1.2 b (by have := (hlt x hx b e).2; omega) (by have := (hlt x hx b e).1; have := k.lt; simp; omega))
 ·refine ⟨fun b e1 e2 => ?_, fun b e1 e2 => ?_⟩
  ·rcases bl b e1 with q | q
   ·exact hvx x hx hne b e2 q
   ·have := (hlt x hx b e2).2; omega
  ·rcases bl b e2 with q | q
   ·exact hvx x hx hne b e1 q
   ·have := (hlt x hx b e1).2; omega
end
end Go.Proofs.YtllmfnedkhiomaaGreatDoor.S

namespace Go.Proofs.YtllmfnedkhiomaaGreatDoor.S
open Go Go.AX
noncomputable section
theorem b256_ne {n : Nat} (h : n ≠ 0) : b256 n ≠ []:= by rw [b256_s h]; simp
theorem num256_app (s : List Nat) (c : Nat) : num256 (s ++ [c]) = num256 s * 256 + c:= by unfold num256; rw [List.foldl_append]; rfl
theorem num256_b (n : Nat) : num256 (b256 n) = n := by
 induction n using Nat.strongRecOn with
 | ind n ih =>
  by_cases q : n = 0
  ·rw [q, b256_0]; rfl
  ·rw [b256_s q, num256_app, ih (n / 256) (by omega)]; omega
theorem b256_head (n : Nat) : ∀ x, (b256 n)[0]? = some x → x ≠ 0 := by
 induction n using Nat.strongRecOn with
 | ind n ih =>
  intro x hx
  by_cases q : n = 0
  ·rw [q, b256_0] at hx; cases hx
  ·rw [b256_s q] at hx
   by_cases q2 : n / 256 = 0
   ·rw [q2, b256_0] at hx
    simp at hx
    omega
   ·rw [List.getElem?_append_left (by have := b256_ne q2; exact List.length_pos_iff.2 this)] at hx
    exact ih (n / 256) (by omega) x hx
theorem numR_enc {n : Nat} (hn : n < M64) (r : List Nat) (bad : Bool) : numR (encN n ++ r) bad = (n, r, bad) := by
 unfold numR encN
 by_cases q : n < 248
 ·rw [if_pos q]
  show (match (if n < 248 then some (n, r) else _) with | some (n, r) => (n, r, bad) | none => (0, [], true)) = _
  rw [if_pos q]
 ·rw [if_neg q]
  have h8 := b256_len 8 n hn
  have h0 : 0 < (b256 n).length := List.length_pos_iff.2 (b256_ne (by omega))
  have hrd := rdNum_at (s := (247 + (b256 n).length) :: b256 n ++ r) (x := 247 + (b256 n).length) rfl
  rw [hrd, if_neg (by omega)]
  have e1 : ((247 + (b256 n).length) :: b256 n ++ r).drop 1 = b256 n ++ r := rfl
  have e2 : 247 + (b256 n).length - 247 = (b256 n).length:= by omega
  rw [e1, e2, List.take_left, List.drop_left, num256_b, if_neg]
  rintro (h | h | h)
  ·rw [List.length_append] at h; omega
  ·rw [List.getElem?_append_left h0] at h
   exact b256_head n 0 h rfl
  ·exact q h
theorem textR_enc {s : List Nat} (hs : s.length < M64) (r : List Nat) (bad : Bool) : textR (encN s.length ++ s ++ r) bad = (s, r, bad) := by
 unfold textR
 rw [List.append_assoc, numR_enc hs]
 simp only
 rw [if_neg (by rw [List.length_append]; omega), List.take_left, List.drop_left]
theorem readV_enc {n : Nat} {s : List Nat} (hn : n < M64) (hs : s.length < M64) : readV (textP n s) = (n, s) ∧ readOk (textP n s) = (decide (0 < n) && decide (s.length ≤ 4000)) := by
 have h1 := numR_enc hn (encN s.length ++ s) false
 have h2 := textR_enc hs [] false
 rw [List.append_nil] at h2
 have e : textP n s = encN n ++ (encN s.length ++ s):= by unfold textP; rw [List.append_assoc]
 have hV : readV (textP n s) = (n, s) := by
  unfold readV
  rw [e, h1, h2]
 refine ⟨hV, ?_⟩
 unfold readOk
 rw [hV, e, h1, h2]
 rfl
theorem textP_ne (n : Nat) (s : List Nat) : textP n s ≠ [] := by
 unfold textP encN
 split <;> simp
theorem take_more {α : Type} (l : List α) (a b : Nat) : l.take a ++ (l.drop a).take b = l.take (a + b):= by rw [List.take_add]
theorem pieces_cat (s : List Nat) : ∀ k, ((List.range k).map fun i => pieceP s i).flatten = s.take (k * 96)
 | 0 => by simp
 | k + 1 => by
  rw [List.range_succ, List.map_append, List.flatten_append, pieces_cat s k]
  show s.take (k * 96) ++ (pieceP s k ++ []) = _
  rw [List.append_nil]
  unfold pieceP
  rw [take_more, Nat.add_mul, Nat.one_mul]
theorem prs_cat (c n : Nat) (s : List Nat) : ((prs (c, n, s)).map (·.2)).flatten = textP n s := by
 unfold prs
 rw [List.map_map]
 show ((List.range (cntP (textP n s))).map fun i => pieceP (textP n s) i).flatten = _
 rw [pieces_cat, List.take_of_length_le]
 unfold cntP; omega
theorem hexD_hx {d : Nat} (h : d < 16) : isHx (hexD d) = true ∧ hv (hexD d) = d := by
 unfold hexD
 rw [isHx_iff]
 unfold hv
 split
 ·refine ⟨by omega, ?_⟩
  rw [if_pos (by omega)]; omega
 ·refine ⟨by omega, ?_⟩
  rw [if_neg (by omega)]; omega
theorem hexF_hx : ∀ (d n : Nat), allHx (hexF n d)
 | 0, n => fun c hc => by cases hc
 | d + 1, n => fun c hc => by
  unfold hexF at hc
  rcases List.mem_append.1 hc with q | q
  ·exact hexF_hx d _ c q
  ·rw [List.mem_singleton] at q; subst q
   exact (hexD_hx (Nat.mod_lt _ (by omega))).1
theorem hexF_num : ∀ (d n : Nat), n < 16 ^ d → numX (hexF n d) = n
  | 0, n, h => by have : n = 0:= by simpa using h
                  subst this; rfl
  | d + 1, n, h => by
    have ih := hexF_num d (n / 16) (by rw [Nat.pow_succ] at h; omega)
    unfold hexF
    unfold numX at ih ⊢
    rw [List.foldl_append, ih]
    show n / 16 * 16 + hv (hexD (n % 16)) = n
    rw [(hexD_hx (Nat.mod_lt _ (by omega))).2]; omega
theorem hexF_len : ∀ (d n : Nat), (hexF n d).length = d
 | 0, _ => rfl
 | d + 1, n => by unfold hexF; rw [List.length_append, hexF_len d]; rfl
theorem cliOf_key {c i : Nat} (hc : c < 281474976710656) (hi : i < 256) : cliOf (keyP c i) = some c := by
 have h12 : hexP c 12 = hexF c 12 := (hexF_P 12 c (by omega) (by omega)).symm
 have h2 : hexP i 2 = hexF i 2 := (hexF_P 2 i (by omega) (by omega)).symm
 have e : keyP c i = 115 :: (hexF c 12 ++ (45 :: hexF i 2)):= by unfold keyP; rw [h12, h2, List.append_assoc]; rfl
 have hd : digX (keyP c i) = hexF c 12 := by
  unfold digX
  rw [e]
  show (hexF c 12 ++ (45 :: hexF i 2)).take 12 = _
  have := List.take_left (l₁ := hexF c 12) (l₂ := 45 :: hexF i 2)
  rwa [hexF_len] at this
 unfold cliOf
 rw [hd, if_pos]
 ·rw [hexF_num 12 c (by omega)]
 ·refine ⟨?_, by rw [e]; rfl, hexF_hx 12 c⟩
  rw [e, List.length_cons, List.length_append, List.length_cons, hexF_len, hexF_len]
theorem cliOf_lt {k : List Nat} {c : Nat} (h : cliOf k = some c) : c < 281474976710656 := by
 unfold cliOf at h
 split at h
 ·rename_i q
  cases h
  have := numX_lt _ q.2.2
  have hl : (digX k).length = 12:= by unfold digX; rw [List.length_take, List.length_drop]; omega
  rw [hl] at this
  have e : (16 : Nat) ^ 12 = 281474976710656:= by decide
  omega
 ·cases h
def addT (c : Nat) (s : List Nat) : List (Nat × List Nat) → List (Nat × List Nat)
 | [] => [(c, s)]
 | (a, t) :: T => if c = a then (a, t ++ s) :: T else (a, t) :: addT c s T
def cliN (k : List Nat) : Nat := (cliOf k).getD 0
def tx (Y : List Kp) : List (Nat × List Nat) := Y.foldl (fun T p => addT (cliN p.1) p.2 T) []
theorem tx_s (Y : List Kp) (p : Kp) : tx (Y ++ [p]) = addT (cliN p.1) p.2 (tx Y):= by unfold tx; rw [List.foldl_append]; rfl
def prW (W : List Tx) : List (Nat × List Nat) := W.map fun x => (x.1, x.2.1)
theorem prW_put (c : Nat) (s : List Nat) (v : AV) : ∀ (W : List Tx) (t : List Nat) (w : AV), getW c W = some (t, w) ∨ getW c W = none ∧ t = [] → prW (putW c (t ++ s) v W) = addT c s (prW W)
 | [], t, w, h => by
  rcases h with h | ⟨_, rfl⟩
  ·cases h
  ·rfl
 | (a, u, x) :: W, t, w, h => by
  have ih := prW_put c s v W t w
  unfold getW at h ih
  rw [List.find?_cons] at h
  unfold putW prW
  rw [List.map_cons]
  unfold addT
  by_cases q : c = a
  ·simp only [q, decide_true] at h
   rw [if_pos q, if_pos q, List.map_cons]
   rcases h with h | ⟨h, _⟩
   ·cases h; rw [q]
   ·cases h
  ·simp only [q, decide_false] at h
   rw [if_neg q, if_neg q, List.map_cons]
   have := ih h
   unfold prW at this
   rw [this]
theorem addT_new {c : Nat} {s : List Nat} : ∀ {T : List (Nat × List Nat)}, c ∉ T.map (·.1) → addT c s T = T ++ [(c, s)]
 | [], _ => rfl
 | (a, t) :: T, h => by
  simp only [List.map_cons, List.mem_cons, not_or] at h
  unfold addT
  rw [if_neg h.1, addT_new h.2]; rfl
theorem addT_last {c : Nat} {s t : List Nat} : ∀ {T : List (Nat × List Nat)}, c ∉ T.map (·.1) → addT c s (T ++ [(c, t)]) = T ++ [(c, t ++ s)]
 | [], _ => by show addT c s [(c, t)] = _; unfold addT; rw [if_pos rfl]; rfl
 | (a, u) :: T, h => by
  simp only [List.map_cons, List.mem_cons, not_or] at h
  show addT c s ((a, u) :: (T ++ [(c, t)])) = _
  unfold addT
  rw [if_neg h.1, addT_last h.2]; rfl
theorem fold_last {c : Nat} : ∀ (Y : List Kp) {T : List (Nat × List Nat)} {t : List Nat}, (∀ p, p ∈ Y → cliN p.1 = c) → c ∉ T.map (·.1) → Y.foldl (fun T p => addT (cliN p.1) p.2 T) (T ++ [(c, t)]) = T ++ [(c, t ++ (Y.map (·.2)).flatten)]
 | [], T, t, _, _ => by simp
 | p :: Y, T, t, h, hc => by
  rw [List.foldl_cons, h p (by simp), addT_last hc, fold_last Y (fun q hq => h q (by simp [hq])) hc, List.map_cons, List.flatten_cons, List.append_assoc]
def rowT (y : Rw) : Nat × List Nat := (y.1, textP y.2.1 y.2.2)
theorem prs_ne (y : Rw) : prs y ≠ [] := by
 obtain ⟨c, n, s⟩ := y
 intro h
 have := prs_cat c n s
 rw [h] at this
 exact textP_ne n s this.symm
theorem fold_prs {y : Rw} (hy : OkRw y) {T : List (Nat × List Nat)} (hT : y.1 ∉ T.map (·.1)) : (prs y).foldl (fun T p => addT (cliN p.1) p.2 T) T = T ++ [rowT y] := by
 have hk : ∀ p, p ∈ prs y → cliN p.1 = y.1 := by
  intro p hp
  have h60 := prs_len hy
  obtain ⟨c, n, s⟩ := y
  rw [prs_len'] at h60
  unfold prs at hp
  obtain ⟨i, hi, rfl⟩ := List.mem_map.1 hp
  rw [List.mem_range] at hi
  show cliN (keyP c i) = c
  unfold cliN
  rw [cliOf_key hy.1 (by simp only at hi; omega)]; rfl
 have hcat : ((prs y).map (·.2)).flatten = textP y.2.1 y.2.2 := prs_cat y.1 y.2.1 y.2.2
 cases hp : prs y with
 | nil => exact absurd hp (prs_ne y)
 | cons p Y =>
  rw [hp] at hk hcat
  rw [List.foldl_cons, hk p (by simp), addT_new hT, fold_last Y (fun q hq => hk q (by simp [hq])) hT]
  rw [List.map_cons, List.flatten_cons] at hcat
  rw [hcat]; rfl
theorem tx_rows : ∀ {R : List Rw}, (R.map (·.1)).Nodup → (∀ y, y ∈ R → OkRw y) → tx (allP R) = R.map rowT := by
 intro R
 have key : ∀ (R A : List Rw), ((A ++ R).map (·.1)).Nodup → (∀ y, y ∈ R → OkRw y) → (allP R).foldl (fun T p => addT (cliN p.1) p.2 T) (A.map rowT) = (A ++ R).map rowT := by
  intro R
  induction R with
  | nil => intro A _ _; rw [List.append_nil]; rfl
  | cons y R ih =>
   intro A nd ok
   have h1 : y.1 ∉ (A.map rowT).map (·.1) := by
    rw [List.map_map]
    show y.1 ∉ A.map (fun x => x.1)
    rw [List.map_append, List.nodup_append] at nd
    exact fun q => nd.2.2 _ q _ (by simp) rfl
   unfold allP
   rw [List.flatMap_cons, List.foldl_append, fold_prs (ok y (by simp)) h1]
   have := ih (A ++ [y]) (by rw [List.append_assoc]; exact nd) (fun z hz => ok z (by simp [hz]))
   rw [List.map_append, List.append_assoc] at this
   exact this
 intro nd ok
 exact key R [] nd ok
theorem allP_keys {L : List Rw} (so : (L.map (·.1)).Pairwise (· < ·)) (ok : ∀ y, y ∈ L → OkRw y) : ((allP L).map (·.1)).Pairwise ltL := by
 unfold allP
 rw [List.pairwise_map, List.pairwise_flatMap]
 rw [List.pairwise_map] at so
 refine ⟨fun y hy => ?_, so.imp_of_mem fun {a b} ha hb h x hx z hz => ?_⟩
 ·have h60 := prs_len (ok y hy)
  obtain ⟨c, n, s⟩ := y
  rw [prs_len'] at h60
  have := outR_keys c n 0 s (by omega) (by omega)
  rw [List.pairwise_map] at this
  rw [prs_new]
  have e : restP c (cntP (textP n s)) 0 = []:= by unfold restP; rw [Nat.zero_sub]; rfl
  rw [e, List.append_nil] at this
  exact this
 ·obtain ⟨c, n, s⟩ := a
  obtain ⟨d, m, t⟩ := b
  rw [prs_new] at hx hz
  unfold newP at hx hz
  obtain ⟨j, -, rfl⟩ := List.mem_map.1 hx
  obtain ⟨k, -, rfl⟩ := List.mem_map.1 hz
  exact key_c h (ok _ hb).1 j k
theorem allP_perm : ∀ {V L : List Rw}, V.Perm L → (allP V).Perm (allP L) := by
 intro V L h
 unfold allP
 induction h with
 | nil => exact List.Perm.refl _
 | cons x _ ih => rw [List.flatMap_cons, List.flatMap_cons]; exact ih.append_left _
 | swap x y l =>
  rw [List.flatMap_cons, List.flatMap_cons, List.flatMap_cons, List.flatMap_cons, ← List.append_assoc, ← List.append_assoc]
  exact List.perm_append_comm.append_right _
 | trans _ _ ih1 ih2 => exact ih1.trans ih2
structure ValB (Bk : List Rw) : Prop where
 len : Bk.length ≤ 64
 nd : (Bk.map (·.1)).Nodup
 ok : ∀ y, y ∈ Bk → OkRw y ∧ 0 < y.1 ∧ 0 < y.2.1
theorem ValB.perm {A B : List Rw} (h : ValB A) (p : A.Perm B) : ValB B := ⟨by rw [← p.length_eq]; exact h.len, (p.map _).nodup_iff.1 h.nd, fun y hy => h.ok y (p.mem_iff.2 hy)⟩
theorem sort_rows (Bk : List Rw) (nd : (Bk.map (·.1)).Nodup) : ∃ R : List Rw, R.Perm Bk ∧ (R.map (·.1)).Pairwise (· < ·) := by
 refine ⟨Bk.mergeSort (fun a b => decide (a.1 ≤ b.1)), List.mergeSort_perm _ _, ?_⟩
 have hp := List.mergeSort_perm Bk (fun a b => decide (a.1 ≤ b.1))
 have hs := List.pairwise_mergeSort (le := fun a b : Rw => decide (a.1 ≤ b.1)) (fun a b c h1 h2 => by simp at *; omega) (fun a b => by simp; omega) Bk
 have hn := (hp.map (·.1)).nodup_iff.2 nd
 rw [List.Nodup, List.pairwise_map] at hn
 rw [List.pairwise_map]
 exact (hs.and hn).imp fun {a b} ⟨h1, h2⟩ => by simp at h1; omega
def sortedY (X : List Kp) : List Kp := (sortS (X.map (·.1))).map fun k => (k, valX k X)
def Good (X : List Kp) : Prop := ∃ Bk, ValB Bk ∧ (allP Bk).Perm X
theorem good_rows {X : List Kp} {Bk : List Rw} (hv : ValB Bk) (hp : (allP Bk).Perm X) : ∃ R, R.Perm Bk ∧ sortedY X = allP R ∧ tx (sortedY X) = R.map rowT := by
 obtain ⟨R, hR, so⟩ := sort_rows Bk hv.nd
 have hvR := hv.perm hR.symm
 have hk := allP_keys so (fun y hy => (hvR.ok y hy).1)
 have e : sortedY X = allP R := rising_eq (V := X) (List.Perm.refl _) (hp.symm.trans (allP_perm hR.symm)) hk
 exact ⟨R, hR, e, by rw [e]; exact tx_rows hvR.nd (fun y hy => (hvR.ok y hy).1)⟩
theorem read_row {y : Rw} (h : OkRw y ∧ 0 < y.1 ∧ 0 < y.2.1) : readV (rowT y).2 = y.2 ∧ readOk (rowT y).2 = true := by
 obtain ⟨c, n, s⟩ := y
 obtain ⟨⟨h1, h2, h3⟩, h4, h5⟩ := h
 simp only at *
 have hM : M64 = 18446744073709551616 := rfl
 have := readV_enc (n := n) (s := s) h2 (by omega)
 refine ⟨this.1, ?_⟩
 show readOk (textP n s) = true
 rw [this.2]
 simp; omega
def bookT (T : List (Nat × List Nat)) : List Rw := T.map fun x => (x.1, readV x.2)
theorem book_rows {R : List Rw} (h : ∀ y, y ∈ R → OkRw y ∧ 0 < y.1 ∧ 0 < y.2.1) : bookT (R.map rowT) = R := by
 unfold bookT
 rw [List.map_map]
 have : ∀ y, y ∈ R → ((fun x : Nat × List Nat => (x.1, readV x.2)) ∘ rowT) y = id y := fun y hy => by
  show ((rowT y).1, readV (rowT y).2) = y
  rw [(read_row (h y hy)).1]; rfl
 rw [List.map_congr_left this, List.map_id]
theorem good_one {X : List Kp} {A B : List Rw} (ha : ValB A) (pa : (allP A).Perm X) (hb : ValB B) (pb : (allP B).Perm X) : A.Perm B := by
 obtain ⟨R, r1, -, r3⟩ := good_rows ha pa
 obtain ⟨S, s1, -, s3⟩ := good_rows hb pb
 have e1 := book_rows (R := R) (fun y hy => ha.ok y (r1.mem_iff.1 hy))
 have e2 := book_rows (R := S) (fun y hy => hb.ok y (s1.mem_iff.1 hy))
 rw [← r3] at e1
 rw [← s3] at e2
 exact r1.symm.trans ((e1.symm.trans e2) ▸ s1)
end
end Go.Proofs.YtllmfnedkhiomaaGreatDoor.S

namespace Go.AX
noncomputable section
open Go.RowKit
end
end Go.AX

namespace Go.Proofs.YtllmfnedkhiomaaGreatDoor.S
open Go.RowKit Go.Maps Go.Sort Go.Shelf Go.Proofs Go.AX
theorem sorts16 (m : Nat) : AnyZ.SortsIn Tryz.prog Tryz.sorted16_ren Fence.wide m :=
  ⟨fun blk off cap ss W hH hblk hsz => callsIn_wide.2 (AnyM.slices_Sort_string Tryz.sort30 blk off cap ss W hH hblk hsz),
   fun p cap W => callsIn_wide.2 (AnyM.slices_Sort_string_none Tryz.sort30 p cap W)⟩
set_option maxHeartbeats 1000000 in
theorem sortedOk17 : AX.SortedOk Tryz.prog 16 31 9 := by
 intro Bm b nn D0 R w hBm hcell hown hmax hbytes
 exact (callsIn_wide (n := 5)).1 (AnyZ.sorted_in Tryz.sorted16 Fence.wide 5 trivial trivial trivial trivial rfl (by omega) (sorts16 _) (enters_of Tryz.func30 (by kernel_rfl) rfl) 31 #[.pointer (some ⟨Bm, 0, none⟩)] trivial (enters_of Tryz.func31 (by kernel_rfl) rfl) _ _ hmax hbytes _ (AnyZ.keys_gives (ρ := Tryz.keys17_ren) { Tryz.keys17 with } Fence.wide _ trivial rfl (by omega) Bm b nn D0 _ hBm hcell hown))
noncomputable def sortedK : Hook := (orHook (sortedHook 16 31) noHook)
theorem sortedK_ok : HookOk Tryz.prog sortedK := (orHook_ok (sortedHook_ok (by kernel_rfl) sortedOk17) (noHook_ok _))
end Go.Proofs.YtllmfnedkhiomaaGreatDoor.S

namespace Go.Proofs.YtllmfnedkhiomaaGreatDoor.S
open Go Go.AX
noncomputable section
set_option maxRecDepth 100000
theorem notIn_iff {x : Nat} : ∀ {l : List Nat}, notIn l x = true ↔ x ∉ l := by
 intro l
 rw [notIn_eq]
 simp
theorem keysOf_ok {clock : Nat} : ∀ {es : List (AV × AV × Nat)} {X : List Kp}, es.map entP = (mS X).map (encP encS) → (X.map (·.1)).Nodup → (es.map (·.2.2)).Nodup → (∀ e, e ∈ es → e.2.2 < clock) → (∀ p, p ∈ X → p.1.length ≤ 1000000) → keysOf clock es = some (X.map (·.1), es.map (·.2.2))
 | [], [], _, _, _, _, _ => rfl
 | [], p :: X, h, _, _, _, _ => by simp [mS] at h
 | e :: es, [], h, _, _, _, _ => by simp [mS] at h
 | e :: es, p :: X, h, nd, ns, lt, hz => by
  unfold mS at h
  rw [List.map_cons, List.map_cons, List.map_cons, List.cons.injEq] at h
  have e1 : e.1 = .str p.1 := congrArg Prod.fst h.1
  rw [List.map_cons, List.nodup_cons] at nd ns
  have ih := keysOf_ok (clock := clock) (es := es) (X := X) h.2 nd.2 ns.2 (fun x hx => lt x (by simp [hx])) (fun q hq => hz q (by simp [hq]))
  obtain ⟨a, b, c⟩ := e
  simp only at e1
  subst e1
  unfold keysOf
  have h1 : notInS p.1 (X.map (·.1)) = true := notInS_iff.2 nd.1
  have h2 : notIn (es.map (·.2.2)) c = true := notIn_iff.2 ns.1
  have h3 : Nat.blt c clock = true:= by rw [Nat.blt_eq]; exact lt _ (List.mem_cons_self ..)
  have h4 : small p.1.length = true := Nat.ble_eq_true_of_le (by have := hz p (by simp); omega)
  simp only [ih, h1, h2, h3, h4, Bool.and_self, List.map_cons]
theorem sortedC {h0 : H} {r : Nat} {X : List Kp} (m : MapK encS h0 r (mS X)) (nd : (X.map (·.1)).Nodup) (hz : X.length ≤ 1000000) (hk : ∀ p, p ∈ X → p.1.length ≤ 1000000) {Q : AV → H → Prop}
  (hq : ∀ v h', Grows 1 (h0.nx + 1) h' v X.length (strs (sortS (X.map (·.1)))) → Og h0 h' [] → Q v h') : CallC P (.enter 16 [.func 31 [] [.ptr h0.nx 0]] (h0.newCells 25 [.map r])) Q := by
 obtain ⟨es, clock, g1, g2, g3, g4⟩ := m.has
 have ltr := m.lt
 have hl : es.length = X.length:= by have := congrArg List.length g2; simpa [mS] using this
 have hko := keysOf_ok g2 nd g3 g4 hk
 have hgb : (h0.newCells 25 [.map r]).t.get h0.nx = some (.cells (lenL [AV.map r]) (T.ofRow [AV.map r]) ⟨0, 26⟩ false) := by
  unfold H.newCells H.alloc
  rw [T.get_set, if_pos rfl]
 have hgr : (h0.newCells 25 [.map r]).t.get r = some (.map es clock) := by
  unfold H.newCells H.alloc
  rw [T.get_set, if_neg (by omega)]; exact g1
 have hsm : small es.length = true := Nat.ble_eq_true_of_le (by omega)
 have hT : (T.ofRow [AV.map r]).get 0 = some (.map r):= by rw [T.get_ofRow]; rfl
 have hin : sortedIn (h0.newCells 25 [.map r]) h0.nx = sortedAt (h0.newCells 25 [.map r]) es clock := by
  unfold sortedIn
  simp only [hgb, hT, hgr]
 have o1 : Og h0 (h0.newCells 25 [.map r]) [] := (Og.refl _ _).new _ _
 cases X with
 | nil =>
  have hat : sortedAt (h0.newCells 25 [.map r]) es clock = some (.nilslice, h0.newCells 25 [.map r]) := by
   unfold sortedAt
   simp only [hsm, hko, List.map_nil]
  refine CallC.of_hook P sortedK_ok (v := .nilslice) (h' := h0.newCells 25 [.map r]) ?_ (hq _ _ .none o1)
  show (match sortedIn (h0.newCells 25 [.map r]) h0.nx with | some x => some x | none => _) = _
  rw [hin, hat]
 | cons p X =>
  obtain ⟨h1, h1e⟩ : ∃ h1, h1 = h0.newCells 25 [.map r] := ⟨_, rfl⟩
  have x1 : h1.nx = h0.nx + 1:= by rw [h1e]; rfl
  have hat : sortedAt h1 es clock = some (.slice h1.nx 0 (X.length + 1) (.opn 0), h1.grown none ⟨1, 0⟩ ((sortS ((p :: X).map (·.1))).map .str)) := by
   unfold sortedAt
   simp only [hsm, hko, List.map_cons, List.length_cons, List.length_map]
  rw [← h1e] at hin o1 ⊢
  refine CallC.of_hook P sortedK_ok (v := .slice h1.nx 0 (X.length + 1) (.opn 0)) (h' := h1.grown none ⟨1, 0⟩ ((sortS ((p :: X).map (·.1))).map .str)) ?_ (hq _ _ ?_ (o1.t ⟨grown_only, rfl⟩))
  ·show (match sortedIn h1 h0.nx with | some x => some x | none => _) = _
   rw [hin, hat]
  ·have hln : ((sortS ((p :: X).map (·.1))).map AV.str).length = (X.length + 1) * 1 := by
    rw [List.length_map, sortS_len, List.length_map, List.length_cons, Nat.mul_one]
   refine .cell h1.nx (X.length + 1) _ (T.ofRow ((sortS ((p :: X).map (·.1))).map .str)) 0 (by omega) (by rw [grownL_nx]; omega) hln ?_ (T.get_ofRow _)
   rw [← hln]
   exact grownL_new _ _ _ _
theorem convB {h : H} {base : Nat} {v : AV} {s : List Nat} (g : Grows 1 base h v s.length (bytesR s)) (hs : isBy s) : convR P 37 9 v h = .val (.str s) h := by
 have u5a : P.underlying 5 = some (.int .u8):= by kernel_rfl
 generalize hn : s.length = n at g
 generalize hc : bytesR s = cs at g
 cases g with
 | none =>
  have : s = [] := List.length_eq_zero_iff.1 hn
  subst this
  unfold convR
  simp only [u75a, u9a]
  unfold convertA
  simp only [u75a, u9a, u5a]
 | cell b n cs t ty g1 g2 g3 g4 g5 =>
  by_cases q : s = []
  ·subst q
   have : n = 0 := hn.symm
   subst this
   have hr : h.row b 0 0 = some []:= by unfold H.row; rw [g4]; simp only [loadRow_eq]; rfl
   unfold convR
   simp only [u75a, u9a]
   unfold convertA
   simp only [u75a, u9a, u5a, hr]
   rfl
  ·refine conv_bytes hn q (fun j hj => ?_) hs
   rw [Nat.zero_add]
   unfold cellAt
   rw [g4]
   simp only [g5, ← hc]
   unfold bytesR
   rw [List.getElem?_map]
structure EqI (h0 : H) (ra rb it : Nat) (Xa Xb : List Kp) (m : Nat) (ds : List Nat) (tm : T AV) (h : H) (V R : List Kp) : Prop where
 ds : ds = []
 nn : m = R.length
 pm : (V ++ R).Perm Xa
 al : ∀ p, p ∈ V → p ∈ Xb
 t1 : tm.get 1 = some (.map rb)
 t15 : tm.get 15 = some (.ptr it 0)
 rg : RngK encS h it ra (mS Xa) (mS V) (mS R)
 oo : Og h0 h []
theorem getS_some {k : List Nat} {X : List Kp} (nd : (X.map (·.1)).Nodup) (s : List Nat) : (decide (valX k X = s) && (mapGet k (mS X)).isSome) = true ↔ (k, s) ∈ X := by
 induction X with
 | nil => simp [mapGet, mS]
 | cons p X ih =>
  rw [List.map_cons, List.nodup_cons] at nd
  have ih := ih nd.2
  unfold valX mapGet mS at *
  rw [List.map_cons, List.find?_cons, List.find?_cons, List.mem_cons]
  by_cases q : k = p.1
  ·simp only [q, decide_true]
   constructor
   ·intro h
    simp at h
    exact .inl (by rw [← h])
   ·rintro (h | h)
    ·rw [← h]; simp
    ·exact absurd (List.mem_map_of_mem (f := (·.1)) h) nd.1
  ·simp only [q, decide_false]
   rw [ih]
   constructor
   ·exact .inr
   ·rintro (h | h)
    ·exact absurd (by rw [← h]) q
    ·exact h
theorem equalC (h0 : H) (ra rb : Nat) (Xa Xb : List Kp) (ma : MapK encS h0 ra (mS Xa)) (mb : MapK encS h0 rb (mS Xb)) (nb : (Xb.map (·.1)).Nodup) (hz : Xa.length ≤ 1000000) : PushC P (.enter 20 [.map ra, .map rb] h0) fun v h' => ∃ e, SaysG h0 (.bool e) v h' ∧ (e = true ↔ Xa.length = Xb.length ∧ ∀ p, p ∈ Xa → p ∈ Xb) := by
 have la := len_k (P := P) u31a ma [] []
 have lb := len_k (P := P) u31a mb [] []
 rw [show (mS Xa).length = Xa.length by unfold mS; simp] at la
 rw [show (mS Xb).length = Xb.length by unfold mS; simp] at lb
 have lta := ma.lt
 have ltb := mb.lt
 by_cases q : Xa.length = Xb.length
 ·have d1 : decide (Xa.length = Xb.length) = true := decide_eq_true q
  obtain ⟨h3, hrg, rg3, x3, o3, gg3⟩ := range_k (P := P) ma u31a
  have o03 : Og h0 h3 [] := ⟨o3, gg3⟩
  refine pushC_of_codeW (fn := Tryz.f20) (c := bodyC Tryz.f20) Tryz.func20 rfl ?_
  show codeW P 20 34 none _ _ _ _ _
  refine codeW_root ?_
  repeat' (first | ((with_reducible refine st1 ?_); (conv => whnf); (with_reducible refine ⟨?_⟩)) | ((with_reducible refine retW_intro rfl ?_); (conv => arg 2; whnf)) | ((with_reducible first | refine iB ?_ ?_ | refine gWt ?_ ?_ | refine gWf ?_ ?_) <;> intro hb <;> (try simp only [hb])) | (simp only [B, F, reduceLT, reduceLeDiff, reduceEqDiff, reduceAdd, reduceMul, reduceSub, ↓reduceIte, eq_self, la, lb, d1, Bool.not_true, @ex_range, hrg]))
  refine st_loop (fun m ds tm h => ∃ V R, EqI h0 ra rb h0.nx Xa Xb m ds tm h V R) Xa.length rfl ⟨[], Xa, rfl, rfl, List.Perm.refl _, fun p hp => (by cases hp), by simp only [B, F, reduceLT, reduceLeDiff, reduceEqDiff, reduceAdd, reduceMul, reduceSub, ↓reduceIte, eq_self], by simp only [B, F, reduceLT, reduceLeDiff, reduceEqDiff, reduceAdd, reduceMul, reduceSub, ↓reduceIte, eq_self], rg3, o03⟩ (fun m ds tm h hI => ?_)
  obtain ⟨V, R, rfl, rfl, pm, al, t1, t15, rg, oo⟩ := hI
  repeat' (first | (with_reducible refine stopC [0, 0, 0, 1, 0, 1, 1] ?_) | ((with_reducible refine st1 ?_); (conv => whnf); (with_reducible refine ⟨?_⟩)) | ((with_reducible refine retW_intro rfl ?_); (conv => arg 2; whnf)) | ((with_reducible first | refine iB ?_ ?_ | refine gWt ?_ ?_ | refine gWf ?_ ?_) <;> intro hb <;> (try simp only [hb])) | (simp only [B, F, reduceLT, reduceLeDiff, reduceEqDiff, reduceAdd, reduceMul, reduceSub, ↓reduceIte, eq_self]))
  refine ⟨pk1 ?_⟩
  (conv => whnf)
  with_reducible refine ⟨?_⟩
  refine pick_k rfl rfl t15 rg (fun hR => ?_) (fun p R1 R2 h4 hR rg4 x4 o4 gg4 hen => ?_)
  ·obtain rfl : R = []:= by unfold mS at hR; exact List.map_eq_nil_iff.1 hR
   rw [List.append_nil] at pm
   repeat' (first | ((with_reducible refine st1 ?_); (conv => whnf); (with_reducible refine ⟨?_⟩)) | ((with_reducible refine retW_intro rfl ?_); (conv => arg 2; whnf)) | ((with_reducible first | refine iB ?_ ?_ | refine gWt ?_ ?_ | refine gWf ?_ ?_) <;> intro hb <;> (try simp only [hb])) | (simp only [B, F, reduceLT, reduceLeDiff, reduceEqDiff, reduceAdd, reduceMul, reduceSub, ↓reduceIte, eq_self, t1, t15]))
   exact ⟨true, ⟨rfl, oo⟩, fun _ => ⟨q, fun p hp => al p (pm.mem_iff.2 hp)⟩, fun _ => rfl⟩
  ·obtain ⟨S1, ⟨k, s⟩, S2, rfl, e1, rfl, e2⟩ := mS_split hR
   have hen4 := hen h4 rfl rfl
   have rl := rg.lt
   have o04 : Og h0 h4 [] := ⟨⟨by have := oo.1.1; omega, fun c hc _ => by rw [o4.2 c (by have := oo.1.1; omega) (by simp; omega)]; exact oo.1.2 c hc (by simp)⟩, by rw [gg4]; exact oo.2⟩
   have mbh := mb.keep o04.1 (by simp)
   have lk := lookup_k (P := P) u31a k9 z9a mbh k true
   have lk2 := get_mS k Xb
   have lk : lookupA P 25 (.map rb) (.str k) true h4 = some (.tuple [.str (valX k Xb), .bool (mapGet k (mS Xb)).isSome]) := by
    refine lk.trans ?_
    simp only [lk2]
   have hgs := getS_some (k := k) nb s
   have hpa : (k, s) ∈ Xa := pm.mem_iff.1 (by simp)
   cases hm : (mapGet k (mS Xb)).isSome with
   | false =>
    rw [hm] at lk hgs
    repeat' (first | ((with_reducible refine st1 ?_); (conv => whnf); (with_reducible refine ⟨?_⟩)) | ((with_reducible refine retW_intro rfl ?_); (conv => arg 2; whnf)) | ((with_reducible first | refine iB ?_ ?_ | refine gWt ?_ ?_ | refine gWf ?_ ?_) <;> intro hb <;> (try simp only [hb])) | (simp only [B, F, reduceLT, reduceLeDiff, reduceEqDiff, reduceAdd, reduceMul, reduceSub, ↓reduceIte, eq_self, t1, t15, @ex_entry, hen4, @ex_lookup, lk, Bool.not_false]))
    refine ⟨false, ⟨rfl, o04⟩, fun e => (by cases e), fun e => ?_⟩
    have := hgs.2 (e.2 _ hpa)
    simp at this
   | true =>
    rw [hm] at lk hgs
    by_cases q2 : s = valX k Xb
    ·have d2 : decide (s = valX k Xb) = true := decide_eq_true q2
     repeat' (first | ((with_reducible refine st1 ?_); (conv => whnf); (with_reducible refine ⟨?_⟩)) | ((with_reducible refine retW_intro rfl ?_); (conv => arg 2; whnf)) | ((with_reducible first | refine iB ?_ ?_ | refine gWt ?_ ?_ | refine gWf ?_ ?_) <;> intro hb <;> (try simp only [hb])) | (simp only [B, F, reduceLT, reduceLeDiff, reduceEqDiff, reduceAdd, reduceMul, reduceSub, ↓reduceIte, eq_self, t1, t15, @ex_entry, hen4, @ex_lookup, lk, Bool.not_true, d2]))
     refine ⟨(S1 ++ S2).length, by simp, V ++ [(k, s)], S1 ++ S2, rfl, rfl, perm_step pm, fun p hp => ?_, by simp only [B, F, reduceLT, reduceLeDiff, reduceEqDiff, reduceAdd, reduceMul, reduceSub, ↓reduceIte, eq_self, t1], by simp only [B, F, reduceLT, reduceLeDiff, reduceEqDiff, reduceAdd, reduceMul, reduceSub, ↓reduceIte, eq_self, t15], by rw [mS_app, mS_app, e1, e2]; exact rg4, o04⟩
     rcases List.mem_append.1 hp with hp | hp
     ·exact al p hp
     ·rw [List.mem_singleton] at hp; subst hp
      exact hgs.1 (by simp [q2])
    ·have d2 : decide (s = valX k Xb) = false := decide_eq_false q2
     repeat' (first | ((with_reducible refine st1 ?_); (conv => whnf); (with_reducible refine ⟨?_⟩)) | ((with_reducible refine retW_intro rfl ?_); (conv => arg 2; whnf)) | ((with_reducible first | refine iB ?_ ?_ | refine gWt ?_ ?_ | refine gWf ?_ ?_) <;> intro hb <;> (try simp only [hb])) | (simp only [B, F, reduceLT, reduceLeDiff, reduceEqDiff, reduceAdd, reduceMul, reduceSub, ↓reduceIte, eq_self, t1, t15, @ex_entry, hen4, @ex_lookup, lk, Bool.not_true, Bool.not_false, d2]))
     refine ⟨false, ⟨rfl, o04⟩, fun e => (by cases e), fun e => ?_⟩
     have := hgs.2 (e.2 _ hpa)
     simp at this
     exact absurd this.symm q2
 ·have d1 : decide (Xa.length = Xb.length) = false := decide_eq_false q
  refine pushC_of_codeW (fn := Tryz.f20) (c := bodyC Tryz.f20) Tryz.func20 rfl ?_
  show codeW P 20 34 none _ _ _ _ _
  refine codeW_root ?_
  repeat' (first | ((with_reducible refine st1 ?_); (conv => whnf); (with_reducible refine ⟨?_⟩)) | ((with_reducible refine retW_intro rfl ?_); (conv => arg 2; whnf)) | ((with_reducible first | refine iB ?_ ?_ | refine gWt ?_ ?_ | refine gWf ?_ ?_) <;> intro hb <;> (try simp only [hb])) | (simp only [B, F, reduceLT, reduceLeDiff, reduceEqDiff, reduceAdd, reduceMul, reduceSub, ↓reduceIte, eq_self, la, lb, d1, Bool.not_false]))
  exact ⟨false, ⟨rfl, Og.refl _ _⟩, fun e => (by cases e), fun e => absurd e.1 q⟩
end
end Go.Proofs.YtllmfnedkhiomaaGreatDoor.S

namespace Go.Proofs.YtllmfnedkhiomaaGreatDoor.S
open Go Go.AX
noncomputable section
set_option maxRecDepth 100000
theorem u56t : P.underlying 56 = some (.map 26 37):= by kernel_rfl
theorem z37t : zeroA P 37 = some .nilslice:= by kernel_rfl
theorem mk56 (tm : T AV) (h : H) : execA P tm h (.makeMap 56 none) = .val (.map h.nx) (h.alloc (.map [] 0)):= by simp only [execA, u56t, evalO]
theorem keysC (h : H) (r : Nat) : PushC P (.enter 17 [.map r] h) fun v h' => v = .func 31 [] [.ptr h.nx 0] ∧ h' = h.newCells 25 [.map r] := by
 refine pushC_of_codeW (fn := Tryz.f17) (c := bodyC Tryz.f17) Tryz.func17 rfl ?_
 show codeW P 17 4 none _ _ _ _ _
 refine codeW_root ?_
 repeat' (first | ((with_reducible refine st1 ?_); (conv => whnf); (with_reducible refine ⟨?_⟩)) | ((with_reducible refine retW_intro rfl ?_); (conv => arg 2; whnf)) | ((with_reducible first | refine iB ?_ ?_ | refine gWt ?_ ?_ | refine gWf ?_ ?_) <;> intro hb <;> (try simp only [hb])) | (simp only [B, F, reduceLT, reduceLeDiff, reduceEqDiff, reduceAdd, reduceMul, reduceSub, ↓reduceIte, eq_self]))
structure OkX (X : List Kp) : Prop where
 nd : (X.map (·.1)).Nodup
 ok : ∀ p, p ∈ X → isBy p.1 ∧ isBy p.2 ∧ p.1.length ≤ 200 ∧ p.2.length ≤ 200
 ln : X.length ≤ 4000
theorem OkX.val {X : List Kp} (o : OkX X) (k : List Nat) : isBy (valX k X) ∧ (valX k X).length ≤ 200 := by
 unfold valX
 cases h : X.find? fun p => decide (k = p.1) with
 | none => exact ⟨fun c hc => (by cases hc), by simp⟩
 | some p =>
  have := o.ok p (List.mem_of_find?_eq_some h)
  exact ⟨this.2.1, this.2.2.2⟩
structure OpenYes (h0 : H) (X : List Kp) (v : AV) (h' : H) (b rb : Nat) (Bk : List Rw) : Prop where
 v : v = .tuple [.ptr b 0, .int .i64 (.ofNat 0)]
 bk : BkAt h' b rb Bk
 val : ValB Bk
 pm : (allP Bk).Perm X
 oo : Og h0 h' []
 ge : h0.nx ≤ b ∧ h0.nx ≤ rb
structure OpenNo (h0 : H) (X : List Kp) (v : AV) (h' : H) : Prop where
 v : v = .tuple [.nilptr, .int .i64 (.ofNat 4)]
 oo : Og h0 h' []
 no : ¬ Good X
def OpenPost (h0 : H) (X : List Kp) (v : AV) (h' : H) : Prop := (∃ b rb Bk, OpenYes h0 X v h' b rb Bk) ∨ OpenNo h0 X v h'
def ksX (X : List Kp) : List (List Nat) := sortS (X.map (·.1))
def yX (X : List Kp) (i : Nat) : List Kp := ((ksX X).take i).map fun k => (k, valX k X)
theorem yX_all (X : List Kp) : yX X (ksX X).length = sortedY X:= by unfold yX; rw [List.take_length]; rfl
theorem good_key {X : List Kp} (g : Good X) {k : List Nat} (hk : k ∈ ksX X) : ∃ c, cliOf k = some c ∧ 0 < c := by
 obtain ⟨Bk, hv, hp⟩ := g
 obtain ⟨R, hR, e, -⟩ := good_rows hv hp
 have : k ∈ (sortedY X).map (·.1) := by
  unfold sortedY
  rw [List.map_map]
  exact List.mem_map.2 ⟨k, hk, rfl⟩
 rw [e] at this
 obtain ⟨p, hp2, rfl⟩ := List.mem_map.1 this
 unfold allP at hp2
 obtain ⟨y, hy, hp3⟩ := List.mem_flatMap.1 hp2
 have hy2 := hv.ok y (hR.mem_iff.1 hy)
 have h60 := prs_len hy2.1
 obtain ⟨c, n, s⟩ := y
 rw [prs_len'] at h60
 unfold prs at hp3
 obtain ⟨i, hi, rfl⟩ := List.mem_map.1 hp3
 rw [List.mem_range] at hi
 exact ⟨c, cliOf_key hy2.1.1 (by simp only at hi; omega), hy2.2.1⟩
theorem good_read {X : List Kp} (g : Good X) {x : Nat × List Nat} (hx : x ∈ tx (sortedY X)) : readOk x.2 = true := by
 obtain ⟨Bk, hv, hp⟩ := g
 obtain ⟨R, hR, -, e⟩ := good_rows hv hp
 rw [e] at hx
 obtain ⟨y, hy, rfl⟩ := List.mem_map.1 hx
 exact (read_row (hv.ok y (hR.mem_iff.1 hy))).2
theorem good_book {X : List Kp} (g : Good X) : (bookT (tx (sortedY X))).length ≤ 64 ∧ (allP (bookT (tx (sortedY X)))).Perm X := by
 obtain ⟨Bk, hv, hp⟩ := g
 obtain ⟨R, hR, -, e⟩ := good_rows hv hp
 rw [e, book_rows (fun y hy => hv.ok y (hR.mem_iff.1 hy))]
 exact ⟨by rw [hR.length_eq]; exact hv.len, (allP_perm hR).trans hp⟩
structure O1I (hs : H) (r rt : Nat) (X : List Kp) (kv : AV) (m : Nat) (ds : List Nat) (tm : T AV) (h : H) (i : Nat) (W : List Tx) : Prop where
 ds : ds = []
 nn : m = (ksX X).length - i
 ii : i ≤ (ksX X).length
 t0 : tm.get 0 = some (.map r)
 t4 : tm.get 4 = some (.map rt)
 t17 : tm.get 17 = some kv
 t18 : tm.get 18 = some (.int .i64 (.ofNat (ksX X).length))
 t19 : tm.get 19 = some (.int .i64 (.ofNat i))
 tw : TxAt h rt hs.nx W
 pw : prW W = tx (yX X i)
 bb : ∀ x, x ∈ W → isBy x.2.1 ∧ x.2.1.length ≤ i * 200
 cl : ∀ x, x ∈ W → 0 < x.1 ∧ x.1 < 281474976710656
 oo : Og hs h [rt]
theorem yX_s {X : List Kp} {i : Nat} {k : List Nat} (h : (ksX X)[i]? = some k) : yX X (i + 1) = yX X i ++ [(k, valX k X)] := by
 unfold yX
 rw [List.take_add_one, h, List.map_append]; rfl
theorem putB_new {c : Nat} {x : Lst} : ∀ {L : List Rw}, c ∉ L.map (·.1) → putB c x L = L ++ [(c, x)]
 | [], _ => rfl
 | (a, y) :: L, h => by
  simp only [List.map_cons, List.mem_cons, not_or] at h
  unfold putB
  rw [if_neg h.1, putB_new h.2]; rfl
theorem mapW_split {R : List Tx} {p : Nat × AV} {R1 R2 : List (Nat × AV)} (h : mapW R = R1 ++ p :: R2) : ∃ S1 x S2, R = S1 ++ x :: S2 ∧ mapW S1 = R1 ∧ p = (x.1, x.2.2) ∧ mapW S2 = R2 := by
 unfold mapW at h
 obtain ⟨S1, S', e, q1, q2⟩ := List.map_eq_append_iff.1 h
 obtain ⟨x, S2, e2, q3, q4⟩ := List.map_eq_cons_iff.1 q2
 subst e2
 exact ⟨S1, x, S2, e, q1, q3.symm, q4⟩
theorem mapW_app (Xa Xb : List Tx) : mapW (Xa ++ Xb) = mapW Xa ++ mapW Xb:= by unfold mapW; rw [List.map_append]
theorem prW_perm {V W : List Tx} (h : V.Perm W) : (prW V).Perm (prW W) := h.map _
theorem bookT_perm {V W : List (Nat × List Nat)} (h : V.Perm W) : (bookT V).Perm (bookT W) := h.map _
theorem readOk_len {s : List Nat} (h : readOk s = true) : 0 < (readV s).1 ∧ (readV s).2.length ≤ 4000 := by
 unfold readOk at h
 simp at h
 exact ⟨h.1.2, h.2⟩
theorem nodup_of_map {l : List Kp} (h : (l.map (·.1)).Nodup) : l.Nodup := by
 rw [List.Nodup, List.pairwise_map] at h
 exact h.imp fun h e => h (by rw [e])
theorem perm_sub {α : Type} : ∀ {l m : List α}, l.Nodup → (∀ x, x ∈ l → x ∈ m) → m.length ≤ l.length → l.Perm m
 | [], m, _, _, h => by
  have : m = [] := List.length_eq_zero_iff.1 (by simpa using h)
  rw [this]
 | x :: l, m, nd, hs, h => by
  rw [List.nodup_cons] at nd
  obtain ⟨m1, m2, rfl⟩ := List.append_of_mem (hs x (by simp))
  have ih : l.Perm (m1 ++ m2) := perm_sub nd.2 (fun y hy => by
   have := hs y (by simp [hy])
   rw [List.mem_append, List.mem_cons] at this
   rw [List.mem_append]
   rcases this with q | rfl | q
   ·exact .inl q
   ·exact absurd hy nd.1
   ·exact .inr q) (by simp at h ⊢; omega)
  exact (ih.cons x).trans List.perm_middle.symm
structure O2I (h2 : H) (r rt bb rb it : Nat) (W : List Tx) (m : Nat) (ds : List Nat) (tm : T AV) (h : H) (V R : List Tx) : Prop where
 ds : ds = []
 nn : m = R.length
 pm : (V ++ R).Perm W
 t0 : tm.get 0 = some (.map r)
 t9 : tm.get 9 = some (.ptr bb 0)
 t46 : tm.get 46 = some (.ptr it 0)
 rg : RngK encU h it rt (mapW W) (mapW V) (mapW R)
 bk : BkAt h bb rb (bookT (prW V))
 rd : ∀ x, x ∈ V → readOk x.2.1 = true
 oo : Og h2 h [rb, it]
set_option maxHeartbeats 1000000 in
theorem openTail (h0 h : H) (gl : Gl h0) (r rt base : Nat) (X : List Kp) (ox : OkX X) (W : List Tx) (tw : TxAt h rt base W) (hW : prW W = tx (sortedY X)) (hb : ∀ x, x ∈ W → isBy x.2.1 ∧ x.2.1.length ≤ 800000) (hc : ∀ x, x ∈ W → 0 < x.1 ∧ x.1 < 281474976710656)
  (mx : MapK encS h r (mS X)) (oo : Og h0 h []) (hr : h0.nx ≤ rt) (hr2 : r < h0.nx) (tm : T AV) (t0 : tm.get 0 = some (.map r)) (t4 : tm.get 4 = some (.map rt)) :
  codeW P 6 80 none (codeI (bodyC Tryz.f6) [1, 1, 1]) [] tm h (retK P Tryz.f6 (OpenPost h0 X)) := by
 have xo := oo.1.1
 have gx := gl.x
 repeat' (first | ((with_reducible refine st1 ?_); (conv => whnf); (with_reducible refine ⟨?_⟩)) | ((with_reducible refine retW_intro rfl ?_); (conv => arg 2; whnf)) | ((with_reducible first | refine iB ?_ ?_ | refine gWt ?_ ?_ | refine gWf ?_ ?_) <;> intro hb <;> (try simp only [hb])) | (simp only [B, xB, F, reduceLT, reduceLeDiff, reduceEqDiff, reduceAdd, reduceMul, reduceSub, ↓reduceIte, eq_self, t0, t4]))
 refine ((newC h).call P).mono P ?_
 rintro _ h1 ⟨rfl, o1, bk1⟩
 have tw1 := tw.keep o1 (by simp)
 have mx1 := mx.keep o1.1 (by simp)
 have lt1 := bk1.lt
 have ltt := tw.mp.lt
 obtain ⟨h2, hrg, rg2, x2, o2, gg2⟩ := range_k (P := P) tw1.mp u56t
 have og2 : Og h1 h2 [] := ⟨o2, gg2⟩
 have bk2 := bk1.keep og2 (by simp) (by simp)
 have x1 := o1.1.1
 repeat' (first | ((with_reducible refine st1 ?_); (conv => whnf); (with_reducible refine ⟨?_⟩)) | ((with_reducible refine retW_intro rfl ?_); (conv => arg 2; whnf)) | ((with_reducible first | refine iB ?_ ?_ | refine gWt ?_ ?_ | refine gWf ?_ ?_) <;> intro hb <;> (try simp only [hb])) | (simp only [B, xB, F, reduceLT, reduceLeDiff, reduceEqDiff, reduceAdd, reduceMul, reduceSub, ↓reduceIte, eq_self, t0, t4, @ex_range, hrg]))
 refine st_loop (fun m ds tm h' => ∃ V R, O2I h2 r rt (h.nx + 1) h.nx h1.nx W m ds tm h' V R) W.length rfl ⟨[], W, rfl, rfl, List.Perm.refl _, by simp only [B, xB, F, reduceLT, reduceLeDiff, reduceEqDiff, reduceAdd, reduceMul, reduceSub, ↓reduceIte, eq_self, t0], by simp only [B, xB, F, reduceLT, reduceLeDiff, reduceEqDiff, reduceAdd, reduceMul, reduceSub, ↓reduceIte, eq_self], by simp only [B, xB, F, reduceLT, reduceLeDiff, reduceEqDiff, reduceAdd, reduceMul, reduceSub, ↓reduceIte, eq_self], rg2, bk2, fun x hx => (by cases hx), Og.refl _ _⟩ (fun m ds tm h' hI => ?_)
 clear t0 t4
 obtain ⟨V, R, rfl, rfl, pm, t0, t9, t46, rg, bk, rd, o2h⟩ := hI
 have x2h := o2h.1.1
 have old : ∀ c, c < h.nx → h'.t.get c = h.t.get c := fun c hc => by
  rw [o2h.1.2 c (by omega) (by simp; omega), o2.2 c (by omega) (by simp), o1.1.2 c hc (by simp)]
 have o0h : Og h0 h' [] := ⟨⟨by omega, fun c hc _ => by rw [old c (by omega)]; exact oo.1.2 c hc (by simp)⟩, by rw [o2h.2, gg2, o1.2, oo.2]⟩
 have mxh : MapK encS h' r (mS X) := mx.get (by omega) (old r mx.lt)
 have c0 := bk.c0
 repeat' (first | (with_reducible refine stopC [0, 0, 0, 1, 0, 1, 1, 1, 1] ?_) | ((with_reducible refine st1 ?_); (conv => whnf); (with_reducible refine ⟨?_⟩)) | ((with_reducible refine retW_intro rfl ?_); (conv => arg 2; whnf)) | ((with_reducible first | refine iB ?_ ?_ | refine gWt ?_ ?_ | refine gWf ?_ ?_) <;> intro hb <;> (try simp only [hb])) | (simp only [B, xB, F, reduceLT, reduceLeDiff, reduceEqDiff, reduceAdd, reduceMul, reduceSub, ↓reduceIte, eq_self]))
 refine ⟨pk1 ?_⟩
 (conv => whnf)
 with_reducible refine ⟨?_⟩
 refine pick_k rfl rfl t46 rg (fun hR => ?_) (fun p R1 R2 h4 hR rg4 x4 o4 gg4 hen => ?_)
 ·obtain rfl : R = []:= by unfold mapW at hR; exact List.map_eq_nil_iff.1 hR
  rw [List.append_nil] at pm
  obtain ⟨Bk, hBk⟩ : ∃ Bk, Bk = bookT (prW V) := ⟨_, rfl⟩
  rw [← hBk] at bk
  have hBW : Bk.Perm (bookT (tx (sortedY X))):= by rw [hBk, ← hW]; exact bookT_perm (prW_perm pm)
  have hl := lenB bk
  have bkeys : Bk.map (·.1) = V.map (·.1):= by rw [hBk]; unfold bookT prW; rw [List.map_map, List.map_map]; rfl
  have bnd : (Bk.map (·.1)).Nodup:= by rw [bkeys]; exact (pm.map (·.1)).nodup_iff.2 tw.nd
  have bok : ∀ y, y ∈ Bk → OkRw y ∧ 0 < y.1 ∧ 0 < y.2.1 := by
   intro y hy
   rw [hBk] at hy
   unfold bookT prW at hy
   rw [List.map_map] at hy
   obtain ⟨x, hx, rfl⟩ := List.mem_map.1 hy
   have hxW := pm.mem_iff.1 hx
   have h1 := readOk_len (rd x hx)
   have h2 := hc x hxW
   have h3 := numR_by (bad := false) (hb x hxW).1 (by have := (hb x hxW).2; omega)
   exact ⟨⟨h2.2, h3.2.2, h1.2⟩, h2.1, h1.1⟩
  by_cases q64 : 64 < Bk.length
  ·have d1 : decide (64 < Bk.length) = true := decide_eq_true q64
   repeat' (first | ((with_reducible refine st1 ?_); (conv => whnf); (with_reducible refine ⟨?_⟩)) | ((with_reducible refine retW_intro rfl ?_); (conv => arg 2; whnf)) | ((with_reducible first | refine iB ?_ ?_ | refine gWt ?_ ?_ | refine gWf ?_ ?_) <;> intro hb <;> (try simp only [hb])) | (simp only [B, xB, F, reduceLT, reduceLeDiff, reduceEqDiff, reduceAdd, reduceMul, reduceSub, ↓reduceIte, eq_self, t0, t9, c0, hl, d1]))
   exact .inr ⟨rfl, o0h, fun g => by have := (good_book g).1; rw [← hBW.length_eq] at this; omega⟩
  ·have d1 : decide (64 < Bk.length) = false := decide_eq_false q64
   have vb : ValB Bk := ⟨by omega, bnd, bok⟩
   repeat' (first | ((with_reducible refine st1 ?_); (conv => whnf); (with_reducible refine ⟨?_⟩)) | ((with_reducible refine retW_intro rfl ?_); (conv => arg 2; whnf)) | ((with_reducible first | refine iB ?_ ?_ | refine gWt ?_ ?_ | refine gWf ?_ ?_) <;> intro hb <;> (try simp only [hb])) | (simp only [B, xB, F, reduceLT, reduceLeDiff, reduceEqDiff, reduceAdd, reduceMul, reduceSub, ↓reduceIte, eq_self, t0, t9, c0, hl, d1]))
   refine ((pairsC h' _ _ Bk bk (gl.keep o0h (by simp)) (fun y hy => (bok y hy).1)).call P).mono P ?_
   rintro _ h5 ⟨ro, V2, rfl, o5, gro, hV2, m5⟩
   have hnd : ((allP V2).map (·.1)).Nodup := by
    obtain ⟨R, hR, so⟩ := sort_rows Bk bnd
    have hk := allP_keys so (fun y hy => (bok y (hR.mem_iff.1 hy)).1)
    exact ((allP_perm (hV2.trans hR.symm)).map (·.1)).nodup_iff.2 (nodup_of_lt hk)
   have m5 : MapK encS h5 ro (mS (allP V2)) := by
    have := outF_mS (allP V2) [] (by simpa using hnd)
    rw [List.nil_append] at this
    rw [← this]; exact m5
   have mx5 := mxh.keep o5.1 (by simp)
   have hal := allP_len (L := V2) (fun y hy => (bok y (hV2.mem_iff.1 hy)).1)
   have hV2l := hV2.length_eq
   repeat' (first | ((with_reducible refine st1 ?_); (conv => whnf); (with_reducible refine ⟨?_⟩)) | ((with_reducible refine retW_intro rfl ?_); (conv => arg 2; whnf)) | ((with_reducible first | refine iB ?_ ?_ | refine gWt ?_ ?_ | refine gWf ?_ ?_) <;> intro hb <;> (try simp only [hb])) | (simp only [B, xB, F, reduceLT, reduceLeDiff, reduceEqDiff, reduceAdd, reduceMul, reduceSub, ↓reduceIte, eq_self, t0, t9]))
   refine ((equalC h5 ro r (allP V2) X m5 mx5 ox.nd (by omega)).call P).mono P ?_
   rintro _ h6 ⟨e, ⟨rfl, o6⟩, he⟩
   have o06 := (o0h.t o5).t o6
   cases e with
   | true =>
    obtain ⟨e1, e2⟩ := he.1 rfl
    have hpm : (allP V2).Perm X := perm_sub (nodup_of_map hnd) e2 (by omega)
    repeat' (first | ((with_reducible refine st1 ?_); (conv => whnf); (with_reducible refine ⟨?_⟩)) | ((with_reducible refine retW_intro rfl ?_); (conv => arg 2; whnf)) | ((with_reducible first | refine iB ?_ ?_ | refine gWt ?_ ?_ | refine gWf ?_ ?_) <;> intro hb <;> (try simp only [hb])) | (simp only [B, xB, F, reduceLT, reduceLeDiff, reduceEqDiff, reduceAdd, reduceMul, reduceSub, ↓reduceIte, eq_self, t0, t9, Bool.not_true]))
    refine .inl ⟨h.nx + 1, h.nx, Bk, rfl, (bk.keep o5 (by simp) (by simp)).keep o6 (by simp) (by simp), vb, (allP_perm hV2.symm).trans hpm, o06, by omega, by omega⟩
   | false =>
    repeat' (first | ((with_reducible refine st1 ?_); (conv => whnf); (with_reducible refine ⟨?_⟩)) | ((with_reducible refine retW_intro rfl ?_); (conv => arg 2; whnf)) | ((with_reducible first | refine iB ?_ ?_ | refine gWt ?_ ?_ | refine gWf ?_ ?_) <;> intro hb <;> (try simp only [hb])) | (simp only [B, xB, F, reduceLT, reduceLeDiff, reduceEqDiff, reduceAdd, reduceMul, reduceSub, ↓reduceIte, eq_self, t0, t9, Bool.not_false]))
    refine .inr ⟨rfl, o06, fun g => ?_⟩
    have h1 := (good_book g).2
    have h2 : (allP V2).Perm X := (allP_perm (hV2.trans hBW)).trans h1
    have := he.2 ⟨h2.length_eq, fun p hp => h2.mem_iff.1 hp⟩
    cases this
 ·obtain ⟨S1, ⟨c, s, w⟩, S2, rfl, e1, rfl, e2⟩ := mapW_split hR
  have hen4 := hen h4 rfl rfl
  have hxW : (c, s, w) ∈ W := pm.mem_iff.1 (by simp)
  have hbx := hb _ hxW
  have gw := tw.gr _ hxW
  have gw4 : Grows 1 base h4 w s.length (bytesR s) := gw.of_get (by omega) (fun b e => by
   have := (gw.base e).2
   rw [o4.2 b (by omega) (by simp; omega)]
   exact old b this)
  have cv := convB gw4 hbx.1
  have og4 : Og h' h4 [h1.nx] := ⟨o4, gg4⟩
  have rl := rg.lt
  repeat' (first | ((with_reducible refine st1 ?_); (conv => whnf); (with_reducible refine ⟨?_⟩)) | ((with_reducible refine retW_intro rfl ?_); (conv => arg 2; whnf)) | ((with_reducible first | refine iB ?_ ?_ | refine gWt ?_ ?_ | refine gWf ?_ ?_) <;> intro hb <;> (try simp only [hb])) | (simp only [B, xB, F, reduceLT, reduceLeDiff, reduceEqDiff, reduceAdd, reduceMul, reduceSub, ↓reduceIte, eq_self, t0, t9, t46, @ex_entry, hen4, cv]))
  refine ((readC h4 s hbx.1 (by have := hbx.2; simp only at this; omega)).call P).mono P ?_
  rintro _ h5 ⟨rfl, o5⟩
  obtain ⟨n, hn⟩ : ∃ n, n = (readV s).1 := ⟨_, rfl⟩
  obtain ⟨u, hu0⟩ : ∃ u, u = (readV s).2 := ⟨_, rfl⟩
  rw [← hn, ← hu0]
  obtain ⟨h6, h6e⟩ : ∃ h6, h6 = (h5.newCells 65 [.int .u64 (.ofNat 0), .str []]).sts h5.nx 0 [.int .u64 (.ofNat n), .str u] := ⟨_, rfl⟩
  have o6 : Og h5 h6 []:= by rw [h6e]; exact ((Og.refl _ _).new _ _).sts (.inr (Nat.le_refl _))
  have x6 : h6.nx = h5.nx + 1:= by rw [h6e, nx_sts, nx_new]
  have z0 : cellAt h6 h5.nx 0 = some (.int .u64 (.ofNat n)):= by rw [h6e, cellAt_sts (by rw [wrAt_new, if_pos rfl]), if_pos ⟨rfl, Nat.zero_le _, by simp⟩]; rfl
  have z1 : cellAt h6 h5.nx 1 = some (.str u):= by rw [h6e, cellAt_sts (by rw [wrAt_new, if_pos rfl]), if_pos ⟨rfl, Nat.zero_le _, by simp⟩]; rfl
  have x5 := o5.1.1
  have o46 := o5.t o6
  have ne1 : h.nx + 1 ≠ h1.nx:= by omega
  have ne2 : h.nx ≠ h1.nx:= by omega
  have bk6 := (bk.keep og4 (by simp; omega) (by simp; omega)).keep o46 (by simp) (by simp)
  have c6 := bk6.c0
  cases hro : readOk s with
  | false =>
   repeat' (first | ((with_reducible refine st1 ?_); (conv => whnf); (with_reducible refine ⟨?_⟩)) | ((with_reducible refine retW_intro rfl ?_); (conv => arg 2; whnf)) | ((with_reducible first | refine iB ?_ ?_ | refine gWt ?_ ?_ | refine gWf ?_ ?_) <;> intro hb <;> (try simp only [hb])) | (simp only [B, xB, F, reduceLT, reduceLeDiff, reduceEqDiff, reduceAdd, reduceMul, reduceSub, ↓reduceIte, eq_self, t0, t9, t46, ← h6e, Bool.not_false]))
   refine .inr ⟨rfl, ⟨⟨by omega, fun d hd _ => by rw [o46.1.2 d (by omega) (by simp), o4.2 d (by omega) (by simp; omega)]; exact o0h.1.2 d hd (by simp)⟩, by rw [o46.2, gg4]; exact o0h.2⟩, fun g => ?_⟩
   have hm : (c, s) ∈ tx (sortedY X):= by rw [← hW]; exact List.mem_map.2 ⟨_, hxW, rfl⟩
   have := good_read g hm
   simp only at this
   rw [hro] at this; cases this
  | true =>
   obtain ⟨h7, hu, m7, x7, o7, gg7⟩ := update_k (P := P) u52a k26 bk6.mm c (lsA (n, u))
   have hu : updateA P 53 (.map h.nx) (.int .u64 (.ofNat c)) (.agg [.int .u64 (.ofNat n), .str u]) h6 = some h7 := hu
   have hcV : c ∉ (bookT (prW V)).map (·.1) := by
    have : (bookT (prW V)).map (·.1) = V.map (·.1):= by unfold bookT prW; rw [List.map_map, List.map_map]; rfl
    rw [this]
    have nd := (pm.map (·.1)).nodup_iff.2 tw.nd
    rw [List.map_append, List.nodup_append] at nd
    exact fun q => nd.2.2 c q c (by simp) rfl
   rw [put_mapV, putB_new hcV] at m7
   repeat' (first | ((with_reducible refine st1 ?_); (conv => whnf); (with_reducible refine ⟨?_⟩)) | ((with_reducible refine retW_intro rfl ?_); (conv => arg 2; whnf)) | ((with_reducible first | refine iB ?_ ?_ | refine gWt ?_ ?_ | refine gWf ?_ ?_) <;> intro hb <;> (try simp only [hb])) | (simp only [B, xB, F, reduceLT, reduceLeDiff, reduceEqDiff, reduceAdd, reduceMul, reduceSub, ↓reduceIte, eq_self, t0, t9, t46, ← h6e, Bool.not_true]))
   repeat' (first | ((with_reducible refine st1 ?_); (conv => whnf); (with_reducible refine ⟨?_⟩)) | ((with_reducible refine st_dw ?_ rfl rfl ?_ ?_); exact rfl; kernel_rfl; (conv => arg 5; whnf); (conv => arg 3; whnf)) | ((with_reducible refine retW_intro rfl ?_); (conv => arg 2; whnf)) | ((with_reducible first | refine iB ?_ ?_ | refine gWt ?_ ?_ | refine gWf ?_ ?_ | refine gXt ?_ ?_ | refine gXf ?_ ?_) <;> intro hb <;> (try simp only [hb])) | ((with_reducible show drawI _ _ _ _ _ _ _ _ _); first | ((with_reducible refine kI_rd ?_ ?_); exact rfl) | ((with_reducible apply kI_rg); exact rfl; exact rfl) | ((with_reducible refine kI_cv ?_ ?_ ?_); exact rfl; kernel_rfl) | ((with_reducible apply kI_al); exact rfl; exact rfl) | ((with_reducible refine kI_ex ?_ ?_ ?_ ?_ ?_); exact rfl; kernel_rfl; exact rfl) | ((with_reducible apply kI_eg); exact rfl; kernel_rfl; exact rfl) | ((with_reducible refine kI_nl ?_ ?_))) | ((with_reducible show eOk _ _ _ _ _ _); first | (exact eok_nil) | (refine ke_rd ?_ ?_ ?_; exact rfl) | (apply ke_rg; exact rfl; exact rfl) | (refine ke_cv ?_ ?_ ?_ ?_; exact rfl; kernel_rfl) | (apply ke_fl; exact rfl) | (apply ke_al; exact rfl; exact rfl)) | ((with_reducible refine freshIs_new ?_); kernel_rfl) | (simp only [B, xB, F, reduceLT, reduceLeDiff, reduceEqDiff, reduceAdd, reduceMul, reduceSub, ↓reduceIte, eq_self, t0, t9, t46, c6, z0, z1, @ex_mapUpdate, hu, oH_some]))
   have og7 : Og h6 h7 [h.nx] := ⟨o7, gg7⟩
   refine ⟨(S1 ++ S2).length, by simp, V ++ [(c, s, w)], S1 ++ S2, rfl, rfl, perm_step pm, by simp only [B, xB, F, reduceLT, reduceLeDiff, reduceEqDiff, reduceAdd, reduceMul, reduceSub, ↓reduceIte, eq_self, t0], by simp only [B, xB, F, reduceLT, reduceLeDiff, reduceEqDiff, reduceAdd, reduceMul, reduceSub, ↓reduceIte, eq_self, t9], by simp only [B, xB, F, reduceLT, reduceLeDiff, reduceEqDiff, reduceAdd, reduceMul, reduceSub, ↓reduceIte, eq_self, t46], ?_, ⟨by have := bk6.lt; omega, kc c6 og7 bk6.lt (by simp), ?_, bk.ne⟩, fun x hx => ?_, ⟨⟨by omega, fun d hd hS => ?_⟩, by rw [gg7, o46.2, gg4, o2h.2]⟩⟩
   ·rw [mapW_app, mapW_app, e1, e2]
    exact (rg4.keep o46.1 (by simp) (by simp)).keep o7 (by simp; omega) (by simp; omega)
   ·have : bookT (prW (V ++ [(c, s, w)])) = bookT (prW V) ++ [(c, n, u)] := by
     unfold bookT prW
     rw [List.map_append, List.map_append, hn, hu0]; rfl
    rw [this]; exact m7
   ·rcases List.mem_append.1 hx with hx | hx
    ·exact rd x hx
    ·rw [List.mem_singleton] at hx; subst hx; exact hro
   ·simp only [List.mem_cons, List.mem_nil_iff, or_false, not_or] at hS
    rw [o7.2 d (by omega) (by simp; omega), o46.1.2 d (by omega) (by simp), o4.2 d (by omega) (by simp; omega)]
    exact o2h.1.2 d hd (by simp; omega)
theorem openC (h0 : H) (gl : Gl h0) (r : Nat) (X : List Kp) (ox : OkX X) (mx : MapK encS h0 r (mS X)) : PushC P (.enter 6 [.map r] h0) (OpenPost h0 X) := by
 have ltr := mx.lt
 obtain ⟨h1, h1e⟩ : ∃ h1, h1 = h0.alloc (.map [] 0) := ⟨_, rfl⟩
 have o1 : Og h0 h1 []:= by rw [h1e]; exact (Og.refl _ _).alloc _
 have x1 : h1.nx = h0.nx + 1:= by rw [h1e]; rfl
 have m1 : MapK encU h1 h0.nx (mapW []):= by rw [h1e]; exact newMap h0 encU
 have mx1 := mx.keep o1.1 (by simp)
 have hkl : (ksX X).length = X.length:= by unfold ksX; rw [sortS_len, List.length_map]
 have kmem : ∀ k, k ∈ ksX X → isBy k ∧ k.length ≤ 200 := fun k hk => by
  unfold ksX at hk
  rw [(sortS_perm _).mem_iff] at hk
  obtain ⟨p, hp, rfl⟩ := List.mem_map.1 hk
  exact ⟨(ox.ok p hp).1, (ox.ok p hp).2.2.1⟩
 have oln := ox.ln
 refine pushC_of_codeW (fn := Tryz.f6) (c := bodyC Tryz.f6) Tryz.func6 rfl ?_
 show codeW P 6 80 none _ _ _ _ _
 refine codeW_root ?_
 repeat' (first | ((with_reducible refine st1 ?_); (conv => whnf); (with_reducible refine ⟨?_⟩)) | ((with_reducible refine retW_intro rfl ?_); (conv => arg 2; whnf)) | ((with_reducible first | refine iB ?_ ?_ | refine gWt ?_ ?_ | refine gWf ?_ ?_) <;> intro hb <;> (try simp only [hb])) | (simp only [B, xB, F, reduceLT, reduceLeDiff, reduceEqDiff, reduceAdd, reduceMul, reduceSub, ↓reduceIte, eq_self, mk56, ← h1e]))
 refine ((keysC h1 r).call P).mono P ?_
 rintro _ _ ⟨rfl, rfl⟩
 repeat' (first | ((with_reducible refine st1 ?_); (conv => whnf); (with_reducible refine ⟨?_⟩)) | ((with_reducible refine retW_intro rfl ?_); (conv => arg 2; whnf)) | ((with_reducible first | refine iB ?_ ?_ | refine gWt ?_ ?_ | refine gWf ?_ ?_) <;> intro hb <;> (try simp only [hb])) | (simp only [B, xB, F, reduceLT, reduceLeDiff, reduceEqDiff, reduceAdd, reduceMul, reduceSub, ↓reduceIte, eq_self]))
 refine sortedC mx1 ox.nd (by omega) (fun p hp => by have := (ox.ok p hp).2.2.1; omega) (fun kv hs gk oks => ?_)
 have os := o1.t oks
 have xs := oks.1.1
 have gko := gk.one
 have gkl := gk.len (P := P) u67a
 have kvl : (strs (sortS (X.map (·.1)))).length = X.length:= by unfold strs; rw [List.length_map, sortS_len, List.length_map]
 have tw0 : TxAt hs h0.nx hs.nx [] := ⟨m1.keep oks.1 (by simp), List.nodup_nil, fun x hx => (by cases hx), List.Pairwise.nil, by omega, Nat.le_refl _⟩
 have mxs := mx.keep os.1 (by simp)
 repeat' (first | ((with_reducible refine st1 ?_); (conv => whnf); (with_reducible refine ⟨?_⟩)) | ((with_reducible refine retW_intro rfl ?_); (conv => arg 2; whnf)) | ((with_reducible first | refine iB ?_ ?_ | refine gWt ?_ ?_ | refine gWf ?_ ?_) <;> intro hb <;> (try simp only [hb])) | (simp only [B, xB, F, reduceLT, reduceLeDiff, reduceEqDiff, reduceAdd, reduceMul, reduceSub, ↓reduceIte, eq_self, gko, gkl]))
 refine st_loop (fun m ds tm h => ∃ i W, O1I hs r h0.nx X kv m ds tm h i W) (ksX X).length rfl ⟨0, [], rfl, rfl, Nat.zero_le _, by simp only [B, xB, F, reduceLT, reduceLeDiff, reduceEqDiff, reduceAdd, reduceMul, reduceSub, ↓reduceIte, eq_self], by simp only [B, xB, F, reduceLT, reduceLeDiff, reduceEqDiff, reduceAdd, reduceMul, reduceSub, ↓reduceIte, eq_self], by simp only [B, xB, F, reduceLT, reduceLeDiff, reduceEqDiff, reduceAdd, reduceMul, reduceSub, ↓reduceIte, eq_self], by simp only [B, xB, F, reduceLT, reduceLeDiff, reduceEqDiff, reduceAdd, reduceMul, reduceSub, ↓reduceIte, eq_self, hkl], by simp only [B, xB, F, reduceLT, reduceLeDiff, reduceEqDiff, reduceAdd, reduceMul, reduceSub, ↓reduceIte, eq_self], tw0, rfl, fun x hx => (by cases hx), fun x hx => (by cases hx), Og.refl _ _⟩ (fun m ds tm h hI => ?_)
 obtain ⟨i, W, rfl, rfl, ii, t0, t4, t17, t18, t19, tw, pw, bb, cl, oo⟩ := hI
 have xo := oo.1.1
 have mxh := mxs.keep oo.1 (by simp; omega)
 by_cases hi : i < (ksX X).length
 ·have d1 : decide (i < (ksX X).length) = true := decide_eq_true hi
  obtain ⟨k, hk⟩ : ∃ k, (ksX X)[i]? = some k := ⟨_, List.getElem?_eq_getElem hi⟩
  have km := List.mem_of_getElem? hk
  have kby := kmem k km
  have vby := ox.val k
  obtain ⟨bk, ok, ck, rfl, hbk, hbk2, hck⟩ : ∃ bk ok ck, kv = .slice bk ok X.length ck ∧ h1.nx + 1 ≤ bk ∧ bk < hs.nx ∧ cellAt hs bk (ok + i) = some (.str k) := by
   generalize hcs : strs (sortS (X.map (·.1))) = cs at gk
   generalize hn : X.length = n at gk
   cases gk with
   | none => omega
   | cell b n cs t ty g1 g2 g3 g4 g5 =>
    refine ⟨b, 0, .opn 0, rfl, g1, g2, ?_⟩
    unfold cellAt
    rw [g4]
    simp only [Nat.zero_add, g5, ← hcs]
    unfold strs
    rw [List.getElem?_map, show (sortS (X.map (·.1)))[i]? = some k from hk]; rfl
  have cellk := kc hck oo (by omega) (by simp; omega)
  have lt1 : (i < X.length) = True:= by simp; omega
  repeat' (first | ((with_reducible refine st1 ?_); (conv => whnf); (with_reducible refine ⟨?_⟩)) | ((with_reducible refine retW_intro rfl ?_); (conv => arg 2; whnf)) | ((with_reducible first | refine iB ?_ ?_ | refine gWt ?_ ?_ | refine gWf ?_ ?_) <;> intro hb <;> (try simp only [hb])) | (simp only [B, xB, F, reduceLT, reduceLeDiff, reduceEqDiff, reduceAdd, reduceMul, reduceSub, ↓reduceIte, eq_self, t0, t4, t17, t18, t19, d1, lt1, Nat.mul_one, cellk]))
  refine ((clientC h k kby.1 (by omega)).call P).mono P ?_
  rintro v h2 ⟨n, ⟨rfl, o2⟩, hn⟩
  have oo2 : Og hs h2 [h0.nx] := ⟨⟨by have := o2.1.1; omega, fun c hc hS => by rw [o2.1.2 c (by omega) (by simp)]; exact oo.1.2 c hc hS⟩, by rw [o2.2]; exact oo.2⟩
  have o02 : Og h0 h2 [] := ⟨⟨by have := o2.1.1; omega, fun c hc _ => by rw [oo2.1.2 c (by omega) (by simp; omega)]; exact os.1.2 c hc (by simp)⟩, by rw [oo2.2]; exact os.2⟩
  cases hcl : cliOf k with
  | none =>
   have e1 : (cliOf k).isSome = false:= by rw [hcl]; rfl
   repeat' (first | ((with_reducible refine st1 ?_); (conv => whnf); (with_reducible refine ⟨?_⟩)) | ((with_reducible refine retW_intro rfl ?_); (conv => arg 2; whnf)) | ((with_reducible first | refine iB ?_ ?_ | refine gWt ?_ ?_ | refine gWf ?_ ?_) <;> intro hb <;> (try simp only [hb])) | (simp only [B, xB, F, reduceLT, reduceLeDiff, reduceEqDiff, reduceAdd, reduceMul, reduceSub, ↓reduceIte, eq_self, t0, t4, t17, t18, t19, e1, Option.isSome_none, Bool.not_false]))
   exact .inr ⟨rfl, o02, fun g => by obtain ⟨c, hc, _⟩ := good_key g km; rw [hcl] at hc; cases hc⟩
  | some c =>
   obtain rfl := hn c hcl
   have hclt := cliOf_lt hcl
   by_cases q0 : n = 0
   ·have d0 : decide (n = 0) = true := decide_eq_true q0
    repeat' (first | ((with_reducible refine st1 ?_); (conv => whnf); (with_reducible refine ⟨?_⟩)) | ((with_reducible refine retW_intro rfl ?_); (conv => arg 2; whnf)) | ((with_reducible first | refine iB ?_ ?_ | refine gWt ?_ ?_ | refine gWf ?_ ?_) <;> intro hb <;> (try simp only [hb])) | (simp only [B, xB, F, reduceLT, reduceLeDiff, reduceEqDiff, reduceAdd, reduceMul, reduceSub, ↓reduceIte, eq_self, t0, t4, t17, t18, t19, Option.isSome_some, Bool.not_true, d0]))
    exact .inr ⟨rfl, o02, fun g => by obtain ⟨c, hc, hc0⟩ := good_key g km; rw [hcl] at hc; cases hc; omega⟩
   ·have d0 : decide (n = 0) = false := decide_eq_false q0
    have tw2 := tw.keep o2 (by simp)
    have mx2 := mxh.keep o2.1 (by simp)
    have lk := lookup_k (P := P) u31a k9 z9a mx2 k false
    have lk : lookupA P 25 (.map r) (.str k) false h2 = some (.str (valX k X)) := lk.trans (congrArg some (get_mS k X))
    have lt := lookup_k (P := P) u56t k26 z37t tw2.mp n false
    have lt : lookupA P 56 (.map h0.nx) (.int .u64 (.ofNat n)) false h2 = some ((mapGet n (mapW W)).getD .nilslice) := lt
    rw [get_mapW] at lt
    obtain ⟨t, w, hgw, hwe, gw, tby⟩ : ∃ t w, (getW n W = some (t, w) ∨ getW n W = none ∧ t = [] ∧ w = .nilslice) ∧ ((getW n W).map (·.2)).getD .nilslice = w ∧ Grows 1 hs.nx h2 w t.length (bytesR t) ∧ isBy t ∧ t.length ≤ i * 200 := by
     cases hg : getW n W with
     | none => exact ⟨[], .nilslice, .inr ⟨rfl, rfl, rfl⟩, rfl, .none, fun c hc => (by cases hc), by simp⟩
     | some x =>
      obtain ⟨t, w⟩ := x
      have hm := getW_mem hg
      exact ⟨t, w, .inl rfl, rfl, tw2.gr _ hm, (bb _ hm).1, (bb _ hm).2⟩
    rw [hwe] at lt
    repeat' (first | ((with_reducible refine st1 ?_); (conv => whnf); (with_reducible refine ⟨?_⟩)) | ((with_reducible refine retW_intro rfl ?_); (conv => arg 2; whnf)) | ((with_reducible first | refine iB ?_ ?_ | refine gWt ?_ ?_ | refine gWf ?_ ?_) <;> intro hb <;> (try simp only [hb])) | (simp only [B, xB, F, reduceLT, reduceLeDiff, reduceEqDiff, reduceAdd, reduceMul, reduceSub, ↓reduceIte, eq_self, t0, t4, t17, t18, t19, Option.isSome_some, Bool.not_true, d0, @ex_lookup, lk, lt]))
    have hi2 : i * 200 ≤ 4000 * 200 := Nat.mul_le_mul_right 200 (by omega)
    have xo2 := oo2.1.1
    refine appStr gw tw2.bs (valX k X) (by omega) (fun v3 h3 g3 x3 old3 bl3 gg3 => ?_)
    have hwb : ∀ b, b < hs.nx → blkOf w ≠ some b := fun b hb e => by have := (gw.base e).1; omega
    have m3 : MapK encU h3 h0.nx (mapW W) := tw2.mp.get x3 (old3 _ tw2.mp.lt (hwb _ (by omega)))
    obtain ⟨h4, hu, m4, x4, o4, gg4⟩ := update_k (P := P) u56t k26 m3 n v3
    have hu : updateA P 56 (.map h0.nx) (.int .u64 (.ofNat n)) v3 h3 = some h4 := hu
    have tw4 := tw2.step hgw g3 x3 old3 bl3 m4 ⟨o4, gg4⟩
    have wi : wrapF .i64 (Int.ofNat i + Int.ofNat 1) = Int.ofNat (i + 1) := i64_add (by omega)
    repeat' (first | ((with_reducible refine st1 ?_); (conv => whnf); (with_reducible refine ⟨?_⟩)) | ((with_reducible refine retW_intro rfl ?_); (conv => arg 2; whnf)) | ((with_reducible first | refine iB ?_ ?_ | refine gWt ?_ ?_ | refine gWf ?_ ?_) <;> intro hb <;> (try simp only [hb])) | (simp only [B, xB, F, reduceLT, reduceLeDiff, reduceEqDiff, reduceAdd, reduceMul, reduceSub, ↓reduceIte, eq_self, t0, t4, t17, t18, t19, @ex_mapUpdate, hu, oH_some, wi]))
    refine ⟨(ksX X).length - (i + 1), by omega, i + 1, putW n (t ++ valX k X) v3 W, rfl, rfl, by omega, by simp only [B, xB, F, reduceLT, reduceLeDiff, reduceEqDiff, reduceAdd, reduceMul, reduceSub, ↓reduceIte, eq_self, t0], by simp only [B, xB, F, reduceLT, reduceLeDiff, reduceEqDiff, reduceAdd, reduceMul, reduceSub, ↓reduceIte, eq_self, t4], by simp only [B, xB, F, reduceLT, reduceLeDiff, reduceEqDiff, reduceAdd, reduceMul, reduceSub, ↓reduceIte, eq_self, t17], by simp only [B, xB, F, reduceLT, reduceLeDiff, reduceEqDiff, reduceAdd, reduceMul, reduceSub, ↓reduceIte, eq_self, t18], by simp only [B, xB, F, reduceLT, reduceLeDiff, reduceEqDiff, reduceAdd, reduceMul, reduceSub, ↓reduceIte, eq_self], tw4, ?_, fun x hx => ?_, fun x hx => ?_, ⟨⟨by omega, fun c hc hS => ?_⟩, by rw [gg4, gg3, oo2.2]⟩⟩
    ·rw [prW_put n (valX k X) v3 W t w (by rcases hgw with q | ⟨q1, q2, _⟩; exact .inl q; exact .inr ⟨q1, q2⟩), pw, yX_s hk, tx_s]
     unfold cliN
     rw [hcl]; rfl
    ·rcases putW_mem tw.nd hx with rfl | ⟨hx, _⟩
     ·refine ⟨fun c hc => ?_, ?_⟩
      ·rcases List.mem_append.1 hc with hc | hc
       ·exact tby.1 c hc
       ·exact vby.1 c hc
      ·show (t ++ valX k X).length ≤ _
       rw [List.length_append]; omega
     ·have := bb x hx
      exact ⟨this.1, by omega⟩
    ·rcases putW_mem tw.nd hx with rfl | ⟨hx, _⟩
     ·exact ⟨by show 0 < n; omega, hclt⟩
     ·exact cl x hx
    ·rw [o4.2 c (by omega) hS, old3 c (by have := oo2.1.1; omega) (hwb c hc)]
     exact oo2.1.2 c hc hS
 ·have d1 : decide (i < (ksX X).length) = false := decide_eq_false hi
  obtain rfl : i = (ksX X).length:= by omega
  rw [yX_all] at pw
  have o0h : Og h0 h [] := ⟨⟨by omega, fun c hc _ => by rw [oo.1.2 c (by omega) (by simp; omega)]; exact os.1.2 c hc (by simp)⟩, by rw [oo.2]; exact os.2⟩
  repeat' (first | (with_reducible refine stopC [1, 1, 1] ?_) | ((with_reducible refine st1 ?_); (conv => whnf); (with_reducible refine ⟨?_⟩)) | ((with_reducible refine retW_intro rfl ?_); (conv => arg 2; whnf)) | ((with_reducible first | refine iB ?_ ?_ | refine gWt ?_ ?_ | refine gWf ?_ ?_) <;> intro hb <;> (try simp only [hb])) | (simp only [B, xB, F, reduceLT, reduceLeDiff, reduceEqDiff, reduceAdd, reduceMul, reduceSub, ↓reduceIte, eq_self, t0, t4, t17, t18, t19, d1]))
  exact ⟨openTail h0 h gl r h0.nx hs.nx X ox W tw pw (fun x hx => ⟨(bb x hx).1, by have := (bb x hx).2; have : (ksX X).length * 200 ≤ 4000 * 200 := Nat.mul_le_mul_right 200 (by omega); omega⟩) cl mxh o0h (Nat.le_refl _) ltr _ (by simp only [B, xB, F, reduceLT, reduceLeDiff, reduceEqDiff, reduceAdd, reduceMul, reduceSub, ↓reduceIte, eq_self, t0]) (by simp only [B, xB, F, reduceLT, reduceLeDiff, reduceEqDiff, reduceAdd, reduceMul, reduceSub, ↓reduceIte, eq_self, t4])⟩
end
end Go.Proofs.YtllmfnedkhiomaaGreatDoor.S

namespace Go.Proofs.YtllmfnedkhiomaaGreatDoor.S
open Go Go.AX
noncomputable section
theorem sub_len {α : Type} : ∀ {l m : List α}, l.Nodup → (∀ x, x ∈ l → x ∈ m) → l.length ≤ m.length
 | [], m, _, _ => by simp
 | x :: l, m, nd, hs => by
  rw [List.nodup_cons] at nd
  obtain ⟨m1, m2, rfl⟩ := List.append_of_mem (hs x (by simp))
  have ih : l.length ≤ (m1 ++ m2).length := sub_len nd.2 (fun y hy => by
   have := hs y (by simp [hy])
   rw [List.mem_append, List.mem_cons] at this
   rw [List.mem_append]
   rcases this with q | rfl | q
   ·exact .inl q
   ·exact absurd hy nd.1
   ·exact .inr q)
  simp at ih ⊢; omega
structure St (Bk : List Rw) (X : List Kp) (ls : List Nat) (rs : List (List Nat)) (i : Nat) : Prop where
 nd : (Bk.map (·.1)).Nodup
 cl : ∀ y, y ∈ Bk → 1 ≤ y.1 ∧ y.1 ≤ 8
 ok : ∀ y, y ∈ Bk → 0 < y.2.1 ∧ y.2.1 ≤ i ∧ y.2.2.length ≤ 800 ∧ isBy y.2.2
 ll : ls.length = 8
 rl : rs.length = 8
 gt : ∀ (k n : Nat) (s : List Nat), ls[k]? = some n → rs[k]? = some s → getB (k + 1) Bk = if n = 0 then none else some (n, s)
 pm : (allP Bk).Perm X
 xn : (X.map (·.1)).Nodup
theorem len8 {Bk : List Rw} (nd : (Bk.map (·.1)).Nodup) (cl : ∀ y, y ∈ Bk → 1 ≤ y.1 ∧ y.1 ≤ 8) : Bk.length ≤ 8 := by
 have := sub_len (m := [1, 2, 3, 4, 5, 6, 7, 8]) nd (fun x hx => by
  obtain ⟨y, hy, rfl⟩ := List.mem_map.1 hx
  have := cl y hy
  simp; omega)
 simpa using this
theorem okRw_of {y : Rw} {i : Nat} (hi : i ≤ 1000) (h1 : 1 ≤ y.1 ∧ y.1 ≤ 8) (h2 : 0 < y.2.1 ∧ y.2.1 ≤ i ∧ y.2.2.length ≤ 800 ∧ isBy y.2.2) : OkRw y := by
 have hM : M64 = 18446744073709551616 := rfl
 exact ⟨by omega, by omega, by omega⟩
theorem St.val {Bk : List Rw} {X : List Kp} {ls : List Nat} {rs : List (List Nat)} {i : Nat} (st : St Bk X ls rs i) (hi : i ≤ 1000) : ValB Bk :=
 ⟨by have := len8 st.nd st.cl; omega, st.nd, fun y hy => ⟨okRw_of hi (st.cl y hy) (st.ok y hy), (st.cl y hy).1, (st.ok y hy).1⟩⟩
theorem keyP_eq {c i : Nat} (hc : c < 281474976710656) (hi : i < 256) : keyP c i = 115 :: (hexF c 12 ++ (45 :: hexF i 2)) := by
 have h12 : hexP c 12 = hexF c 12 := (hexF_P 12 c (by omega) (by omega)).symm
 have h2 : hexP i 2 = hexF i 2 := (hexF_P 2 i (by omega) (by omega)).symm
 unfold keyP; rw [h12, h2, List.append_assoc]; rfl
theorem getB_perm {Xa Xb : List Rw} (h : Xa.Perm Xb) (nd : (Xa.map (·.1)).Nodup) (c : Nat) : getB c Xa = getB c Xb := by
 have nb := (h.map (·.1)).nodup_iff.1 nd
 cases q : getB c Xb with
 | none =>
  rw [getB_none] at q ⊢
  exact fun e => q ((h.map (·.1)).mem_iff.1 e)
 | some y => rw [getB_some nb] at q; rw [getB_some nd]; exact h.mem_iff.2 q
theorem St.open {Bk Bk2 : List Rw} {X : List Kp} {ls : List Nat} {rs : List (List Nat)} {i : Nat} (st : St Bk X ls rs i) (hi : i ≤ 1000) (hv : ValB Bk2) (hp : (allP Bk2).Perm X) : St Bk2 X ls rs i := by
 have h := good_one hv hp (st.val hi) st.pm
 refine ⟨hv.nd, fun y hy => st.cl y (h.mem_iff.1 hy), fun y hy => st.ok y (h.mem_iff.1 hy), st.ll, st.rl, fun k n s h1 h2 => ?_, hp, st.xn⟩
 rw [getB_perm h hv.nd]; exact st.gt k n s h1 h2
end
end Go.Proofs.YtllmfnedkhiomaaGreatDoor.S

namespace Go.Proofs.YtllmfnedkhiomaaGreatDoor.S
open Go Go.AX
noncomputable section
set_option maxRecDepth 100000
theorem b256_num : ∀ {l : List Nat}, isBy l → (∀ x, l[0]? = some x → x ≠ 0) → b256 (num256 l) = l := by
 intro l
 have key : ∀ (n : Nat) (l : List Nat), l.length = n → isBy l → (∀ x, l[0]? = some x → x ≠ 0) → b256 (num256 l) = l := by
  intro n
  induction n with
  | zero =>
   intro l hl _ _
   have : l = [] := List.length_eq_zero_iff.1 hl
   subst this
   exact b256_0
  | succ n ih =>
   intro l hl hb h0
   have hsp : l = l.take n ++ [l[n]'(by omega)] := by
    have := List.take_append_drop n l
    rw [List.drop_eq_getElem_cons (by omega), List.drop_eq_nil_of_le (by omega)] at this
    exact this.symm
   obtain ⟨m, c, rfl⟩ : ∃ m c, l = m ++ [c] := ⟨_, _, hsp⟩
   have hc := hb c (by simp)
   have hm : m.length = n:= by simp at hl; exact hl
   rw [num256_app]
   by_cases q : m = []
   ·subst q
    have := h0 c (by simp)
    have e : num256 [] * 256 + c = c:= by show 0 * 256 + c = c; omega
    rw [e, b256_s (by omega), show c / 256 = 0 by omega, b256_0, Nat.mod_eq_of_lt hc]
   ·have ih := ih m hm (fun x hx => hb x (by simp [hx])) (fun x hx => h0 x (by rw [List.getElem?_append_left (List.length_pos_iff.2 q)]; exact hx))
    have hne : num256 m ≠ 0 := fun e => by
     rw [e, b256_0] at ih
     exact q ih.symm
    rw [b256_s (by omega), show (num256 m * 256 + c) / 256 = num256 m by omega, show (num256 m * 256 + c) % 256 = c by omega, ih]
 exact key _ l rfl
theorem enc_test {x : Nat} {r : List Nat} (hx : x < 256) (hr : isBy r) (h248 : ¬ x < 248) (hl : ¬ r.length < x - 247) :
  encN (num256 (r.take (x - 247))) = x :: r.take (x - 247) ↔ ¬ (r[0]? = some 0 ∨ num256 (r.take (x - 247)) < 248) := by
 obtain ⟨k, hk⟩ : ∃ k, k = x - 247 := ⟨_, rfl⟩
 rw [← hk]
 rw [← hk] at hl
 have hkl : (r.take k).length = k:= by rw [List.length_take]; omega
 have h0 : (r.take k)[0]? = r[0]?:= by rw [List.getElem?_take, if_pos (by omega)]
 constructor
 ·intro h
  unfold encN at h
  split at h
  ·have e := congrArg List.length h
   rw [List.length_cons, List.length_cons, hkl, List.length_nil] at e
   omega
  ·rename_i q
   rw [List.cons.injEq] at h
   rintro (e | e)
   ·rw [← h0, ← h.2] at e
    exact b256_head _ 0 e rfl
   ·exact q e
 ·intro h
  rw [not_or] at h
  unfold encN
  rw [if_neg h.2]
  have hb := b256_num (l := r.take k) (fun c hc => hr c (List.mem_of_mem_take hc)) (fun y hy e => h.1 (by rw [← h0, hy, e]))
  rw [hb, hkl]
  congr 1; omega
theorem RdAt.setB {h : H} {b : Nat} {s : List Nat} {bad : Bool} (k : RdAt h b s bad) : RdAt (h.sts b 1 [.bool true]) b s true :=
 ⟨by rw [nx_sts]; exact k.lt, by rw [cellAt_sts k.wr, if_neg (by simp)]; exact k.c0, by rw [cellAt_sts k.wr, if_pos ⟨rfl, Nat.le_refl _, by simp⟩]; rfl, by rw [wrAt_sts]; exact k.wr⟩
theorem failC (h0 : H) (b : Nat) (s : List Nat) (bad : Bool) (k : RdAt h0 b s bad) : PushC P (.enter 42 [.ptr b 0] h0) (fun v h' => RdAt h' b [] true ∧ Og h0 h' [b]) := by
 have e0 : bytesOf { data := #[] } = [] := rfl
 have c0 := k.c0
 have c1 := k.c1
 have wr := k.wr
 have k1 := k.set []
 have c01 := k1.c0
 have c11 := k1.c1
 have wr1 := k1.wr
 refine pushC_of_codeW (fn := Tryz.f42) (c := bodyC Tryz.f42) Tryz.func42 rfl ?_
 show codeW P 42 8 none _ _ _ _ _
 refine codeW_root ?_
 repeat' (first | ((with_reducible refine st1 ?_); (conv => whnf); (with_reducible refine ⟨?_⟩)) | ((with_reducible refine retW_intro rfl ?_); (conv => arg 2; whnf)) | ((with_reducible first | refine iB ?_ ?_ | refine gWt ?_ ?_ | refine gWf ?_ ?_) <;> intro hb <;> (try simp only [hb])) | (simp only [B, F, reduceLT, reduceLeDiff, reduceEqDiff, reduceAdd, reduceMul, reduceSub, ↓reduceIte, eq_self, e0, c0, c1, wr]))
 exact ⟨_, rfl, _, rfl, k1.setB, ((Og.refl _ [b]).sts (.inl (by simp))).sts (.inl (by simp))⟩
structure RnJ (h1 : H) (b k : Nat) (acc : Nat → Nat) (m : Nat) (ds : List Nat) (tm : T AV) (h : H) (i : Nat) : Prop where
 ds : ds = []
 nn : m = k + 1 - i
 i1 : 1 ≤ i
 ii : i ≤ k + 1
 t0 : tm.get 0 = some (.ptr b 0)
 t3 : tm.get 3 = some (.int .i64 (.ofNat k))
 t4 : tm.get 4 = some (.int .u64 (.ofNat (acc i)))
 t5 : tm.get 5 = some (.int .i64 (.ofNat i))
 hh : h = h1
theorem mx247 {x : Nat} (hx : x < 256) : (if Int.ofNat x - Int.ofNat 247 < Int.ofNat 0 then Int.ofNat 0 else Int.ofNat x - Int.ofNat 247) = Int.ofNat (x - 247) := by
 show (if (x : Int) - 247 < 0 then (0 : Int) else (x : Int) - 247) = ((x - 247 : Nat) : Int)
 split <;> omega
set_option maxHeartbeats 4000000 in
theorem rNumC (h0 : H) (b : Nat) (s : List Nat) (bad : Bool) (k : RdAt h0 b s bad) (hs : isBy s) (hz : s.length < 1000000) : PushC P (.enter 24 [.ptr b 0] h0) (NumPost h0 b (numR s bad)) := by
 have e0 : bytesOf { data := #[] } = [] := rfl
 have c0 := k.c0
 have c1 := k.c1
 have wr := k.wr
 by_cases q0 : s = []
 ·have d0 : decide (s = []) = true := decide_eq_true q0
  have hr : numR s bad = (0, [], true):= by rw [q0]; rfl
  rw [hr]
  refine pushC_of_codeW (fn := Tryz.f24) (c := bodyC Tryz.f24) Tryz.func24 rfl ?_
  show codeW P 24 77 none _ _ _ _ _
  refine codeW_root ?_
  repeat' (first | ((with_reducible refine st1 ?_); (conv => whnf); (with_reducible refine ⟨?_⟩)) | ((with_reducible refine retW_intro rfl ?_); (conv => arg 2; whnf)) | ((with_reducible first | refine iB ?_ ?_ | refine gWt ?_ ?_ | refine gWf ?_ ?_) <;> intro hb <;> (try simp only [hb])) | (simp only [B, xB, F, reduceLT, reduceLeDiff, reduceEqDiff, reduceAdd, reduceMul, reduceSub, ↓reduceIte, eq_self, e0, c0, d0]))
  refine ((failC h0 b s bad k).call P).mono P ?_
  rintro v h2 ⟨rd, o2⟩
  repeat' (first | ((with_reducible refine st1 ?_); (conv => whnf); (with_reducible refine ⟨?_⟩)) | ((with_reducible refine retW_intro rfl ?_); (conv => arg 2; whnf)) | ((with_reducible first | refine iB ?_ ?_ | refine gWt ?_ ?_ | refine gWf ?_ ?_) <;> intro hb <;> (try simp only [hb])) | (simp only [B, xB, F, reduceLT, reduceLeDiff, reduceEqDiff, reduceAdd, reduceMul, reduceSub, ↓reduceIte, eq_self]))
  exact ⟨rfl, rd, o2⟩
 have d0 : decide (s = []) = false := decide_eq_false q0
 obtain ⟨x, hx⟩ : ∃ x, s[0]? = some x := by
  cases s with
  | nil => exact absurd rfl q0
  | cons y r => exact ⟨y, rfl⟩
 have ix := ix_str hx .i64
 have hx256 : x < 256 := hs x (List.mem_of_getElem? hx)
 have hrd := rdNum_at hx
 obtain ⟨r, hr⟩ : ∃ r, r = s.drop 1 := ⟨_, rfl⟩
 have hsr : s = x :: r := by
  cases s with
  | nil => exact absurd rfl q0
  | cons y r' => simp at hx; subst hx; rw [hr]; rfl
 rw [← hr] at hrd
 have hrb : isBy r := fun c hc => hs c (by rw [hr] at hc; exact List.mem_of_mem_drop hc)
 have hsl : s.length = r.length + 1:= by rw [hsr]; rfl
 obtain ⟨kk, hkk⟩ : ∃ kk, kk = x - 247 := ⟨_, rfl⟩
 have hk8 : kk ≤ 8:= by omega
 have wk0 : wrapF .i64 (Int.ofNat x) = Int.ofNat x := by
  have := i64_add (a := x) (b := 0) (by omega)
  simpa using this
 have wu0 : wrapF .u64 (Int.ofNat x) = Int.ofNat x := u64_nat (by omega)
 have wd := i64_dif (a := x) (b := 247) (by omega) (by omega)
 have mx := mx247 hx256
 rw [← hkk] at mx
 have w1k : wrapF .i64 (Int.ofNat 1 + Int.ofNat kk) = Int.ofNat (1 + kk) := i64_add (by omega)
 by_cases q2 : s.length < 1 + kk
 ·have d2 : decide (s.length < 1 + kk) = true := decide_eq_true q2
  rw [← hkk, if_neg (by omega), if_pos (.inl (by omega))] at hrd
  have hR : numR s bad = (0, [], true):= by unfold numR; rw [hrd]
  rw [hR]
  refine pushC_of_codeW (fn := Tryz.f24) (c := bodyC Tryz.f24) Tryz.func24 rfl ?_
  show codeW P 24 77 none _ _ _ _ _
  refine codeW_root ?_
  repeat' (first | ((with_reducible refine st1 ?_); (conv => whnf); (with_reducible refine ⟨?_⟩)) | ((with_reducible refine retW_intro rfl ?_); (conv => arg 2; whnf)) | ((with_reducible first | refine iB ?_ ?_ | refine gWt ?_ ?_ | refine gWf ?_ ?_) <;> intro hb <;> (try simp only [hb])) | (simp only [B, xB, F, reduceLT, reduceLeDiff, reduceEqDiff, reduceAdd, reduceMul, reduceSub, ↓reduceIte, eq_self, e0, c0, c1, d0, ix, wk0, wd, bi_max, mx, w1k, d2]))
  refine ((failC h0 b s bad k).call P).mono P ?_
  rintro v h2 ⟨rd, o2⟩
  repeat' (first | ((with_reducible refine st1 ?_); (conv => whnf); (with_reducible refine ⟨?_⟩)) | ((with_reducible refine retW_intro rfl ?_); (conv => arg 2; whnf)) | ((with_reducible first | refine iB ?_ ?_ | refine gWt ?_ ?_ | refine gWf ?_ ?_) <;> intro hb <;> (try simp only [hb])) | (simp only [B, xB, F, reduceLT, reduceLeDiff, reduceEqDiff, reduceAdd, reduceMul, reduceSub, ↓reduceIte, eq_self]))
  exact ⟨rfl, rd, o2⟩
 have d2 : decide (s.length < 1 + kk) = false := decide_eq_false q2
 have wx1 : ∃ acc : Nat → Nat, acc 1 = (if 0 < kk then 0 else x) ∧ (∀ i, 0 < kk → 1 ≤ i → acc i = num256 (r.take (i - 1))) := by
  by_cases q : 0 < kk
  ·exact ⟨fun i => num256 (r.take (i - 1)), by rw [if_pos q]; rfl, fun i _ _ => rfl⟩
  ·exact ⟨fun _ => x, by rw [if_neg q], fun i h => absurd h q⟩
 obtain ⟨acc, ha1, ha2⟩ := wx1
 obtain ⟨d3, hd3⟩ : ∃ d3, d3 = decide (0 < kk) := ⟨_, rfl⟩
 have key : ∀ tm : T AV, tm.get 0 = some (.ptr b 0) → tm.get 3 = some (.int .i64 (.ofNat kk)) → tm.get 4 = some (.int .u64 (.ofNat (acc 1))) →
   codeW P 24 77 none (codeI (bodyC Tryz.f24) [1, 1, 1, 1, 1, 1]) [] tm h0 (retK P Tryz.f24 (NumPost h0 b (numR s bad))) := by
  intro tm t0 t3 t4
  have n8 : acc (kk + 1) < M64 := by
   by_cases q : 0 < kk
   ·rw [ha2 _ q (by omega)]
    have h8 : (256 : Nat) ^ 8 = 18446744073709551616:= by rfl
    show _ < 18446744073709551616
    rw [← h8]
    refine Nat.lt_of_lt_of_le (num256_lt _ (fun c hc => hrb c (List.mem_of_mem_take hc))) (Nat.pow_le_pow_right (by omega) ?_)
    rw [List.length_take]; omega
   ·obtain rfl : kk = 0:= by omega
    rw [ha1, if_neg q]
    have hM : M64 = 18446744073709551616 := rfl
    omega
  repeat' (first | ((with_reducible refine st1 ?_); (conv => whnf); (with_reducible refine ⟨?_⟩)) | ((with_reducible refine retW_intro rfl ?_); (conv => arg 2; whnf)) | ((with_reducible first | refine iB ?_ ?_ | refine gWt ?_ ?_ | refine gWf ?_ ?_) <;> intro hb <;> (try simp only [hb])) | (simp only [B, xB, F, reduceLT, reduceLeDiff, reduceEqDiff, reduceAdd, reduceMul, reduceSub, ↓reduceIte, eq_self, t0, t3, t4]))
  refine st_loop (fun m ds tm h => ∃ i, RnJ h0 b kk acc m ds tm h i) kk rfl ⟨1, rfl, by omega, by omega, by omega, by simp only [B, xB, F, reduceLT, reduceLeDiff, reduceEqDiff, reduceAdd, reduceMul, reduceSub, ↓reduceIte, eq_self, t0], by simp only [B, xB, F, reduceLT, reduceLeDiff, reduceEqDiff, reduceAdd, reduceMul, reduceSub, ↓reduceIte, eq_self, t3], by simp only [B, xB, F, reduceLT, reduceLeDiff, reduceEqDiff, reduceAdd, reduceMul, reduceSub, ↓reduceIte, eq_self, t4], by simp only [B, xB, F, reduceLT, reduceLeDiff, reduceEqDiff, reduceAdd, reduceMul, reduceSub, ↓reduceIte, eq_self], rfl⟩ (fun m ds tm h hI => ?_)
  clear t0 t3 t4
  obtain ⟨i, rfl, rfl, i1, ii, t0, t3, t4, t5, rfl⟩ := hI
  by_cases hi : i ≤ kk
  ·have di : decide (i ≤ kk) = true := decide_eq_true hi
   obtain ⟨z, hz1⟩ : ∃ z, r[i - 1]? = some z := ⟨_, List.getElem?_eq_getElem (by omega)⟩
   have hz2 : s[i]? = some z := by
    rw [hsr]
    obtain ⟨j, rfl⟩ : ∃ j, i = j + 1 := ⟨i - 1, by omega⟩
    exact hz1
   have iz := ix_str hz2 .i64
   have hz256 : z < 256 := hrb z (List.mem_of_getElem? hz1)
   have hsn := num256_s hz1
   obtain ⟨n, hn⟩ : ∃ n, n = acc i := ⟨_, rfl⟩
   have hn2 := ha2 i (by omega) i1
   rw [← hn2, ← hn] at hsn
   rw [← hn] at t4
   have hlt : n < 256 ^ 7 := by
    rw [hn, hn2]
    refine Nat.lt_of_lt_of_le (num256_lt _ (fun c hc => hrb c (List.mem_of_mem_take hc))) (Nat.pow_le_pow_right (by omega) ?_)
    rw [List.length_take]; omega
   have h7 : (256 : Nat) ^ 7 = 72057594037927936:= by rfl
   rw [h7] at hlt
   have hacc : acc (i + 1) = n * 256 + z := by
    have e : i + 1 - 1 = i - 1 + 1:= by omega
    rw [ha2 (i + 1) (by omega) (by omega), e, hsn]
   have wm : wrapF .u64 (Int.ofNat 256 * Int.ofNat n) = Int.ofNat (256 * n) := u64_nat (a := 256 * n) (by omega)
   have wz : wrapF .u64 (Int.ofNat z) = Int.ofNat z := u64_nat (by omega)
   have wa : wrapF .u64 (Int.ofNat (256 * n) + Int.ofNat z) = Int.ofNat (256 * n + z) := u64_add (by omega)
   have wi : wrapF .i64 (Int.ofNat i + Int.ofNat 1) = Int.ofNat (i + 1) := i64_add (by omega)
   repeat' (first | ((with_reducible refine st1 ?_); (conv => whnf); (with_reducible refine ⟨?_⟩)) | ((with_reducible refine retW_intro rfl ?_); (conv => arg 2; whnf)) | ((with_reducible first | refine iB ?_ ?_ | refine gWt ?_ ?_ | refine gWf ?_ ?_) <;> intro hb <;> (try simp only [hb])) | (simp only [B, xB, F, reduceLT, reduceLeDiff, reduceEqDiff, reduceAdd, reduceMul, reduceSub, ↓reduceIte, eq_self, t0, t3, t4, t5, di, c0, iz, wm, wz, wa, wi]))
   exact ⟨kk - i, by omega, i + 1, rfl, by omega, by omega, by omega, by simp only [B, xB, F, reduceLT, reduceLeDiff, reduceEqDiff, reduceAdd, reduceMul, reduceSub, ↓reduceIte, eq_self, t0], by simp only [B, xB, F, reduceLT, reduceLeDiff, reduceEqDiff, reduceAdd, reduceMul, reduceSub, ↓reduceIte, eq_self, t3], by rw [hacc, Nat.mul_comm]; simp only [B, xB, F, reduceLT, reduceLeDiff, reduceEqDiff, reduceAdd, reduceMul, reduceSub, ↓reduceIte, eq_self], by simp only [B, xB, F, reduceLT, reduceLeDiff, reduceEqDiff, reduceAdd, reduceMul, reduceSub, ↓reduceIte, eq_self], rfl⟩
  ·have di : decide (i ≤ kk) = false := decide_eq_false hi
   obtain rfl : i = kk + 1:= by omega
   obtain ⟨n, hn⟩ : ∃ n, n = acc (kk + 1) := ⟨_, rfl⟩
   rw [← hn] at t4 n8
   have ck := cut_hiK s (1 + kk) .i64 (by omega)
   have cl := cut_loK s (1 + kk) .i64 (by omega)
   repeat' (first | ((with_reducible refine st1 ?_); (conv => whnf); (with_reducible refine ⟨?_⟩)) | ((with_reducible refine st_dp ord24_0 ?_ rfl rfl ?_); exact rfl; (conv => arg 4; whnf); (conv => arg 3; whnf)) | ((with_reducible refine retW_intro rfl ?_); (conv => arg 2; whnf)) | ((with_reducible first | refine iB ?_ ?_ | refine gWt ?_ ?_ | refine gWf ?_ ?_ | refine gXt ?_ ?_ | refine gXf ?_ ?_) <;> intro hb <;> (try simp only [hb])) | ((with_reducible show drawP _ _ _ _ _ _ _ _ _); first | ((with_reducible apply kP_rd); exact rfl; exact rfl) | ((with_reducible apply kP_rg); exact rfl; exact rfl; exact rfl) | ((with_reducible apply kP_cv); exact rfl; exact rfl; kernel_rfl) | ((with_reducible apply kP_al); exact rfl; exact rfl; exact rfl) | ((with_reducible apply kP_fl); exact rfl; exact rfl; exact rfl) | ((with_reducible apply kP_ex); exact rfl; exact rfl; kernel_rfl; exact rfl) | ((with_reducible apply kP_eg); exact rfl; exact rfl; kernel_rfl; exact rfl) | ((with_reducible refine kP_nl ?_ ?_))) | ((with_reducible show eOk _ _ _ _ _ _); first | (exact eok_nil) | (refine ke_rd ?_ ?_ ?_; exact rfl) | (apply ke_rg; exact rfl; exact rfl) | (refine ke_cv ?_ ?_ ?_ ?_; exact rfl; kernel_rfl) | (apply ke_fl; exact rfl) | (apply ke_al; exact rfl; exact rfl)) | ((with_reducible refine freshIs_new ?_); kernel_rfl) | (simp only [B, xB, F, reduceLT, reduceLeDiff, reduceEqDiff, reduceAdd, reduceMul, reduceSub, ↓reduceIte, eq_self, t0, t3, t4, t5, di, c0, w1k, @ex_sl_h, ck]))
   refine ((rPutN h n [] n8 (by simp)).call P).mono P ?_
   rintro v h2 ⟨rfl, o2⟩
   have k2 := k.keep o2 (by simp)
   have c02 := k2.c0
   have c12 := k2.c1
   have wr2 := k2.wr
   rw [List.nil_append]
   have htk : s.take (1 + kk) = x :: r.take kk:= by rw [hsr, Nat.add_comm]; rfl
   have hdr : s.drop (1 + kk) = r.drop kk:= by rw [hsr, Nat.add_comm]; rfl
   have hn0 : 0 < kk → n = num256 (r.take kk) := fun q => by rw [hn, ha2 _ q (by omega)]; rfl
   have hn1 : ¬ 0 < kk → n = x := fun q => by
    obtain rfl : kk = 0:= by omega
    rw [hn, ha1, if_neg q]
   by_cases q5 : encN n = s.take (1 + kk)
   ·have d5 : decide (encN n = s.take (1 + kk)) = true := decide_eq_true q5
    have hR : numR s bad = (n, s.drop (1 + kk), bad) := by
     unfold numR
     rw [hrd, hdr]
     by_cases q : x < 248
     ·have e : kk = 0:= by omega
      rw [if_pos q, hn1 (by omega), e]; rfl
     ·have e := hn0 (by omega)
      rw [htk, e, hkk, enc_test hx256 hrb q (by omega)] at q5
      rw [if_neg q, if_neg (by rintro (h | h); exact absurd h (by omega); exact q5 h), e, hkk]
    rw [hR]
    repeat' (first | ((with_reducible refine st1 ?_); (conv => whnf); (with_reducible refine ⟨?_⟩)) | ((with_reducible refine st_dp ord24_0 ?_ rfl rfl ?_); exact rfl; (conv => arg 4; whnf); (conv => arg 3; whnf)) | ((with_reducible refine retW_intro rfl ?_); (conv => arg 2; whnf)) | ((with_reducible first | refine iB ?_ ?_ | refine gWt ?_ ?_ | refine gWf ?_ ?_ | refine gXt ?_ ?_ | refine gXf ?_ ?_) <;> intro hb <;> (try simp only [hb])) | ((with_reducible show drawP _ _ _ _ _ _ _ _ _); first | ((with_reducible apply kP_rd); exact rfl; exact rfl) | ((with_reducible apply kP_rg); exact rfl; exact rfl; exact rfl) | ((with_reducible apply kP_cv); exact rfl; exact rfl; kernel_rfl) | ((with_reducible apply kP_al); exact rfl; exact rfl; exact rfl) | ((with_reducible apply kP_fl); exact rfl; exact rfl; exact rfl) | ((with_reducible apply kP_ex); exact rfl; exact rfl; kernel_rfl; exact rfl) | ((with_reducible apply kP_eg); exact rfl; exact rfl; kernel_rfl; exact rfl) | ((with_reducible refine kP_nl ?_ ?_))) | ((with_reducible show eOk _ _ _ _ _ _); first | (exact eok_nil) | (refine ke_rd ?_ ?_ ?_; exact rfl) | (apply ke_rg; exact rfl; exact rfl) | (refine ke_cv ?_ ?_ ?_ ?_; exact rfl; kernel_rfl) | (apply ke_fl; exact rfl) | (apply ke_al; exact rfl; exact rfl)) | ((with_reducible refine freshIs_new ?_); kernel_rfl) | (simp only [B, xB, F, reduceLT, reduceLeDiff, reduceEqDiff, reduceAdd, reduceMul, reduceSub, ↓reduceIte, eq_self, d5, Bool.not_true, t0, t3, t4, c02, w1k, @ex_sl_h, ck, @ex_sl_l, cl, wr2]))
    exact ⟨rfl, k2.set _, (o2.s1 (Og.refl _ [b])).sts (.inl (by simp))⟩
   ·have d5 : decide (encN n = s.take (1 + kk)) = false := decide_eq_false q5
    have hR : numR s bad = (0, [], true) := by
     unfold numR
     rw [hrd]
     by_cases q : x < 248
     ·have e : kk = 0:= by omega
      exact absurd (by rw [htk, hn1 (by omega), e]; unfold encN; rw [if_pos q]; rfl) q5
     ·have e := hn0 (by omega)
      rw [htk, e, hkk, enc_test hx256 hrb q (by omega), Classical.not_not] at q5
      rw [if_neg q, if_pos (.inr q5)]
    rw [hR]
    repeat' (first | ((with_reducible refine st1 ?_); (conv => whnf); (with_reducible refine ⟨?_⟩)) | ((with_reducible refine st_dp ord24_0 ?_ rfl rfl ?_); exact rfl; (conv => arg 4; whnf); (conv => arg 3; whnf)) | ((with_reducible refine retW_intro rfl ?_); (conv => arg 2; whnf)) | ((with_reducible first | refine iB ?_ ?_ | refine gWt ?_ ?_ | refine gWf ?_ ?_ | refine gXt ?_ ?_ | refine gXf ?_ ?_) <;> intro hb <;> (try simp only [hb])) | ((with_reducible show drawP _ _ _ _ _ _ _ _ _); first | ((with_reducible apply kP_rd); exact rfl; exact rfl) | ((with_reducible apply kP_rg); exact rfl; exact rfl; exact rfl) | ((with_reducible apply kP_cv); exact rfl; exact rfl; kernel_rfl) | ((with_reducible apply kP_al); exact rfl; exact rfl; exact rfl) | ((with_reducible apply kP_fl); exact rfl; exact rfl; exact rfl) | ((with_reducible apply kP_ex); exact rfl; exact rfl; kernel_rfl; exact rfl) | ((with_reducible apply kP_eg); exact rfl; exact rfl; kernel_rfl; exact rfl) | ((with_reducible refine kP_nl ?_ ?_))) | ((with_reducible show eOk _ _ _ _ _ _); first | (exact eok_nil) | (refine ke_rd ?_ ?_ ?_; exact rfl) | (apply ke_rg; exact rfl; exact rfl) | (refine ke_cv ?_ ?_ ?_ ?_; exact rfl; kernel_rfl) | (apply ke_fl; exact rfl) | (apply ke_al; exact rfl; exact rfl)) | ((with_reducible refine freshIs_new ?_); kernel_rfl) | (simp only [B, xB, F, reduceLT, reduceLeDiff, reduceEqDiff, reduceAdd, reduceMul, reduceSub, ↓reduceIte, eq_self, d5, Bool.not_false, t0, t3, t4, c02, w1k, @ex_sl_h, ck]))
    refine ((failC h2 b s bad k2).call P).mono P ?_
    rintro v h3 ⟨rd, o3⟩
    repeat' (first | ((with_reducible refine st1 ?_); (conv => whnf); (with_reducible refine ⟨?_⟩)) | ((with_reducible refine retW_intro rfl ?_); (conv => arg 2; whnf)) | ((with_reducible first | refine iB ?_ ?_ | refine gWt ?_ ?_ | refine gWf ?_ ?_) <;> intro hb <;> (try simp only [hb])) | (simp only [B, xB, F, reduceLT, reduceLeDiff, reduceEqDiff, reduceAdd, reduceMul, reduceSub, ↓reduceIte, eq_self]))
    exact ⟨rfl, rd, o2.s1 o3⟩
 by_cases q3 : 0 < kk
 ·have d3 : decide (0 < kk) = true := decide_eq_true q3
  rw [if_pos q3] at ha1
  refine pushC_of_codeW (fn := Tryz.f24) (c := bodyC Tryz.f24) Tryz.func24 rfl ?_
  show codeW P 24 77 none _ _ _ _ _
  refine codeW_root ?_
  repeat' (first | (with_reducible refine stopC [1, 1, 1, 1, 1, 1] ?_) | ((with_reducible refine st1 ?_); (conv => whnf); (with_reducible refine ⟨?_⟩)) | ((with_reducible refine retW_intro rfl ?_); (conv => arg 2; whnf)) | ((with_reducible first | refine iB ?_ ?_ | refine gWt ?_ ?_ | refine gWf ?_ ?_) <;> intro hb <;> (try simp only [hb])) | (simp only [B, xB, F, reduceLT, reduceLeDiff, reduceEqDiff, reduceAdd, reduceMul, reduceSub, ↓reduceIte, eq_self, e0, c0, c1, d0, ix, wk0, wu0, wd, bi_max, mx, w1k, d2, d3]))
  refine ⟨key _ (by simp only [B, xB, F, reduceLT, reduceLeDiff, reduceEqDiff, reduceAdd, reduceMul, reduceSub, ↓reduceIte, eq_self]) (by simp only [B, xB, F, reduceLT, reduceLeDiff, reduceEqDiff, reduceAdd, reduceMul, reduceSub, ↓reduceIte, eq_self]) (by rw [ha1]; simp only [B, xB, F, reduceLT, reduceLeDiff, reduceEqDiff, reduceAdd, reduceMul, reduceSub, ↓reduceIte, eq_self])⟩
 ·have d3 : decide (0 < kk) = false := decide_eq_false q3
  rw [if_neg q3] at ha1
  refine pushC_of_codeW (fn := Tryz.f24) (c := bodyC Tryz.f24) Tryz.func24 rfl ?_
  show codeW P 24 77 none _ _ _ _ _
  refine codeW_root ?_
  repeat' (first | (with_reducible refine stopC [1, 1, 1, 1, 1, 1] ?_) | ((with_reducible refine st1 ?_); (conv => whnf); (with_reducible refine ⟨?_⟩)) | ((with_reducible refine retW_intro rfl ?_); (conv => arg 2; whnf)) | ((with_reducible first | refine iB ?_ ?_ | refine gWt ?_ ?_ | refine gWf ?_ ?_) <;> intro hb <;> (try simp only [hb])) | (simp only [B, xB, F, reduceLT, reduceLeDiff, reduceEqDiff, reduceAdd, reduceMul, reduceSub, ↓reduceIte, eq_self, e0, c0, c1, d0, ix, wk0, wu0, wd, bi_max, mx, w1k, d2, d3]))
  refine ⟨key _ (by simp only [B, xB, F, reduceLT, reduceLeDiff, reduceEqDiff, reduceAdd, reduceMul, reduceSub, ↓reduceIte, eq_self]) (by simp only [B, xB, F, reduceLT, reduceLeDiff, reduceEqDiff, reduceAdd, reduceMul, reduceSub, ↓reduceIte, eq_self]) (by rw [ha1]; simp only [B, xB, F, reduceLT, reduceLeDiff, reduceEqDiff, reduceAdd, reduceMul, reduceSub, ↓reduceIte, eq_self])⟩
theorem numR_len (s : List Nat) (bad : Bool) : (numR s bad).2.1.length ≤ s.length := by
 unfold numR
 cases s with
 | nil => exact Nat.le_refl _
 | cons x r =>
  unfold rdNum
  simp only
  split
  ·rename_i e
   split at e
   ·simp at e; rw [← e.2]; simp
   ·split at e
    ·cases e
    ·simp at e; rw [← e.2]; simp; omega
  ·simp
theorem rTextC (h0 : H) (b : Nat) (s : List Nat) (bad : Bool) (k : RdAt h0 b s bad) (hs : isBy s) (hz : s.length < 1000000) : PushC P (.enter 25 [.ptr b 0] h0) (fun v h' => v = .str (textR s bad).1 ∧ RdAt h' b (textR s bad).2.1 (textR s bad).2.2 ∧ Og h0 h' [b]) := by
 have e0 : bytesOf { data := #[] } = [] := rfl
 refine pushC_of_codeW (fn := Tryz.f25) (c := bodyC Tryz.f25) Tryz.func25 rfl ?_
 show codeW P 25 33 none _ _ _ _ _
 refine codeW_root ?_
 repeat' (first | ((with_reducible refine st1 ?_); (conv => whnf); (with_reducible refine ⟨?_⟩)) | ((with_reducible refine retW_intro rfl ?_); (conv => arg 2; whnf)) | ((with_reducible first | refine iB ?_ ?_ | refine gWt ?_ ?_ | refine gWf ?_ ?_) <;> intro hb <;> (try simp only [hb])) | (simp only [B, F, reduceLT, reduceLeDiff, reduceEqDiff, reduceAdd, reduceMul, reduceSub, ↓reduceIte, eq_self]))
 refine ((rNumC h0 b s bad k hs hz).call P).mono P ?_
 rintro v h1 ⟨rfl, k1, o1⟩
 unfold textR
 obtain ⟨y, hy⟩ : ∃ y, y = numR s bad := ⟨_, rfl⟩
 have hy3 : y.2.1.length < 1000000:= by rw [hy]; exact Nat.lt_of_le_of_lt (numR_len s bad) hz
 rw [← hy] at k1 ⊢
 clear hy
 obtain ⟨n, r, bd⟩ := y
 have hlr : r.length < 1000000 := hy3
 simp only at k1 ⊢
 have c0 := k1.c0
 have c1 := k1.c1
 have wr := k1.wr
 have wl : wrapF .u64 (Int.ofNat r.length) = Int.ofNat r.length := u64_nat (by omega)
 by_cases q : r.length < n
 ·have d : decide (r.length < n) = true := decide_eq_true q
  rw [if_pos q]
  repeat' (first | ((with_reducible refine st1 ?_); (conv => whnf); (with_reducible refine ⟨?_⟩)) | ((with_reducible refine retW_intro rfl ?_); (conv => arg 2; whnf)) | ((with_reducible first | refine iB ?_ ?_ | refine gWt ?_ ?_ | refine gWf ?_ ?_) <;> intro hb <;> (try simp only [hb])) | (simp only [B, F, reduceLT, reduceLeDiff, reduceEqDiff, reduceAdd, reduceMul, reduceSub, ↓reduceIte, eq_self, c0, wl, d, e0]))
  refine ((failC h1 b r bd k1).call P).mono P ?_
  rintro v h3 ⟨rd, o3⟩
  repeat' (first | ((with_reducible refine st1 ?_); (conv => whnf); (with_reducible refine ⟨?_⟩)) | ((with_reducible refine retW_intro rfl ?_); (conv => arg 2; whnf)) | ((with_reducible first | refine iB ?_ ?_ | refine gWt ?_ ?_ | refine gWf ?_ ?_) <;> intro hb <;> (try simp only [hb])) | (simp only [B, F, reduceLT, reduceLeDiff, reduceEqDiff, reduceAdd, reduceMul, reduceSub, ↓reduceIte, eq_self, e0]))
  exact ⟨rd, o1.s2 o3⟩
 ·have d : decide (r.length < n) = false := decide_eq_false q
  have ch := cut_hiK r n .u64 (by omega)
  have cl := cut_loK r n .u64 (by omega)
  rw [if_neg q]
  repeat' (first | ((with_reducible refine st1 ?_); (conv => whnf); (with_reducible refine ⟨?_⟩)) | ((with_reducible refine retW_intro rfl ?_); (conv => arg 2; whnf)) | ((with_reducible first | refine iB ?_ ?_ | refine gWt ?_ ?_ | refine gWf ?_ ?_) <;> intro hb <;> (try simp only [hb])) | (simp only [B, F, reduceLT, reduceLeDiff, reduceEqDiff, reduceAdd, reduceMul, reduceSub, ↓reduceIte, eq_self, c0, wl, d, e0, @ex_sl_h, @ex_sl_l, ch, cl, wr]))
  exact ⟨k1.set _, o1.sts (.inl (by simp))⟩
theorem rEndC (h0 : H) (b : Nat) (s : List Nat) (bad : Bool) (k : RdAt h0 b s bad) : PushC P (.enter 26 [.ptr b 0] h0) (SaysG h0 (.bool (!bad && decide (s = [])))) := by
 have e0 : bytesOf { data := #[] } = [] := rfl
 have c0 := k.c0
 have c1 := k.c1
 cases bad with
 | true =>
  refine pushC_of_codeW (fn := Tryz.f26) (c := bodyC Tryz.f26) Tryz.func26 rfl ?_
  show codeW P 26 15 none _ _ _ _ _
  refine codeW_root ?_
  repeat' (first | ((with_reducible refine st1 ?_); (conv => whnf); (with_reducible refine ⟨?_⟩)) | ((with_reducible refine retW_intro rfl ?_); (conv => arg 2; whnf)) | ((with_reducible first | refine iB ?_ ?_ | refine gWt ?_ ?_ | refine gWf ?_ ?_) <;> intro hb <;> (try simp only [hb])) | (simp only [B, F, reduceLT, reduceLeDiff, reduceEqDiff, reduceAdd, reduceMul, reduceSub, ↓reduceIte, eq_self, e0, c0, c1, Bool.not_true]))
  exact ⟨rfl, Og.refl _ _⟩
 | false =>
  refine pushC_of_codeW (fn := Tryz.f26) (c := bodyC Tryz.f26) Tryz.func26 rfl ?_
  show codeW P 26 15 none _ _ _ _ _
  refine codeW_root ?_
  repeat' (first | ((with_reducible refine st1 ?_); (conv => whnf); (with_reducible refine ⟨?_⟩)) | ((with_reducible refine retW_intro rfl ?_); (conv => arg 2; whnf)) | ((with_reducible first | refine iB ?_ ?_ | refine gWt ?_ ?_ | refine gWf ?_ ?_) <;> intro hb <;> (try simp only [hb])) | (simp only [B, F, reduceLT, reduceLeDiff, reduceEqDiff, reduceAdd, reduceMul, reduceSub, ↓reduceIte, eq_self, e0, c0, c1, Bool.not_false]))
  exact ⟨rfl, Og.refl _ _⟩
end
end Go.Proofs.YtllmfnedkhiomaaGreatDoor.S

namespace Go.Proofs.YtllmfnedkhiomaaGreatDoor.S
open Go Go.AX
noncomputable section
set_option maxRecDepth 100000
theorem hexes_at {k : Nat} (h : k < 16) : hexes[k]? = some (hexD k) := by
 have : ∀ k : Fin 16, hexes[k.1]? = some (hexD k.1):= by decide
 exact this ⟨k, h⟩
theorem hexD_iff {k c : Nat} (h : k < 16) : hexD k = c ↔ isHx c = true ∧ hv c = k := by
 constructor
 ·intro e
  rw [← e]; exact hexD_hx h
 ·rintro ⟨h1, h2⟩
  rw [isHx_iff] at h1
  unfold hv at h2
  unfold hexD
  split at h2 <;> split <;> omega
def vkI (c k : Nat) : Int := if isHx c = true ∧ hv c < k then Int.ofNat (hv c) else -1
theorem vkI_s {c k : Nat} : vkI c (k + 1) = if isHx c = true ∧ hv c = k then Int.ofNat k else vkI c k := by
 unfold vkI
 by_cases q : isHx c = true
 ·by_cases q1 : hv c = k
  ·rw [if_pos ⟨q, by omega⟩, if_pos ⟨q, q1⟩, q1]
  ·by_cases q2 : hv c < k
   ·have q3 : hv c < k + 1:= by omega
    simp [q, q1, q2, q3]
   ·have q3 : ¬ hv c < k + 1:= by omega
    simp [q, q1, q2, q3]
 ·rw [if_neg (fun h => q h.1), if_neg (fun h => q h.1), if_neg (fun h => q h.1)]
theorem vkI_0 (c : Nat) : vkI c 0 = -1 := if_neg (fun h => by have := h.2; omega)
structure NuI (h0 : H) (s : List Nat) (m : Nat) (ds : List Nat) (tm : T AV) (h : H) (i : Nat) : Prop where
 ds : ds = []
 nn : m = s.length - i
 ii : i ≤ s.length
 t0 : tm.get 0 = some (.str s)
 t4 : tm.get 4 = some (.int .u64 (.ofNat (numX (s.take i))))
 t5 : tm.get 5 = some (.int .i64 (.ofNat i))
 hx : allHx (s.take i)
 hh : h = h0
structure NvI (h0 : H) (s : List Nat) (i c : Nat) (m : Nat) (ds : List Nat) (tm : T AV) (h : H) (k : Nat) : Prop where
 ds : ds = []
 nn : m = 16 - k
 kk : k ≤ 16
 t0 : tm.get 0 = some (.str s)
 t4 : tm.get 4 = some (.int .u64 (.ofNat (numX (s.take i))))
 t5 : tm.get 5 = some (.int .i64 (.ofNat i))
 t6 : tm.get 6 = some (.int .i64 (vkI c k))
 t7 : tm.get 7 = some (.int .i64 (.ofNat k))
 hh : h = h0
open Classical in
def numV (s : List Nat) : AV := if allHx s then .tuple [.int .u64 (.ofNat (numX s)), .bool true] else .tuple [.int .u64 (.ofNat 0), .bool false]
set_option maxHeartbeats 4000000 in
theorem numberC (h0 : H) (s : List Nat) (hz : s.length ≤ 12) : PushC P (.enter 23 [.str s] h0) (fun v h' => v = numV s ∧ h' = h0) := by
 have e0 : bytesOf { data := #[48, 49, 50, 51, 52, 53, 54, 55, 56, 57, 97, 98, 99, 100, 101, 102] } = hexes := rfl
 refine pushC_of_codeW (fn := Tryz.f23) (c := bodyC Tryz.f23) Tryz.func23 rfl ?_
 show codeW P 23 33 none _ _ _ _ _
 refine codeW_root ?_
 repeat' (first | ((with_reducible refine st1 ?_); (conv => whnf); (with_reducible refine ⟨?_⟩)) | ((with_reducible refine retW_intro rfl ?_); (conv => arg 2; whnf)) | ((with_reducible first | refine iB ?_ ?_ | refine gWt ?_ ?_ | refine gWf ?_ ?_) <;> intro hb <;> (try simp only [hb])) | (simp only [B, xB, F, reduceLT, reduceLeDiff, reduceEqDiff, reduceAdd, reduceMul, reduceSub, ↓reduceIte, eq_self]))
 refine st_loop (fun m ds tm h => ∃ i, NuI h0 s m ds tm h i) s.length rfl ⟨0, rfl, rfl, Nat.zero_le _, by simp only [B, xB, F, reduceLT, reduceLeDiff, reduceEqDiff, reduceAdd, reduceMul, reduceSub, ↓reduceIte, eq_self], by simp only [B, xB, F, reduceLT, reduceLeDiff, reduceEqDiff, reduceAdd, reduceMul, reduceSub, ↓reduceIte, eq_self]; rfl, by simp only [B, xB, F, reduceLT, reduceLeDiff, reduceEqDiff, reduceAdd, reduceMul, reduceSub, ↓reduceIte, eq_self], fun c hc => (by cases hc), rfl⟩ (fun m ds tm h hI => ?_)
 obtain ⟨i, rfl, rfl, ii, t0, t4, t5, hx, rfl⟩ := hI
 by_cases hi : i < s.length
 ·have di : decide (i < s.length) = true := decide_eq_true hi
  obtain ⟨c, hc⟩ : ∃ c, s[i]? = some c := ⟨_, List.getElem?_eq_getElem hi⟩
  have ic := ix_str hc .i64
  repeat' (first | ((with_reducible refine st1 ?_); (conv => whnf); (with_reducible refine ⟨?_⟩)) | ((with_reducible refine retW_intro rfl ?_); (conv => arg 2; whnf)) | ((with_reducible first | refine iB ?_ ?_ | refine gWt ?_ ?_ | refine gWf ?_ ?_) <;> intro hb <;> (try simp only [hb])) | (simp only [B, xB, F, reduceLT, reduceLeDiff, reduceEqDiff, reduceAdd, reduceMul, reduceSub, ↓reduceIte, eq_self, t0, t4, t5, di]))
  refine st_loop (fun m ds tm h2 => ∃ k, NvI h s i c m ds tm h2 k) 16 rfl ⟨0, rfl, rfl, Nat.zero_le _, by simp only [B, xB, F, reduceLT, reduceLeDiff, reduceEqDiff, reduceAdd, reduceMul, reduceSub, ↓reduceIte, eq_self, t0], by simp only [B, xB, F, reduceLT, reduceLeDiff, reduceEqDiff, reduceAdd, reduceMul, reduceSub, ↓reduceIte, eq_self, t4], by simp only [B, xB, F, reduceLT, reduceLeDiff, reduceEqDiff, reduceAdd, reduceMul, reduceSub, ↓reduceIte, eq_self, t5], by rw [vkI_0]; simp only [B, xB, F, reduceLT, reduceLeDiff, reduceEqDiff, reduceAdd, reduceMul, reduceSub, ↓reduceIte, eq_self]; rfl, by simp only [B, xB, F, reduceLT, reduceLeDiff, reduceEqDiff, reduceAdd, reduceMul, reduceSub, ↓reduceIte, eq_self], rfl⟩ (fun m ds tm h2 hI => ?_)
  clear t0 t4 t5
  obtain ⟨k, rfl, rfl, kk, t0, t4, t5, t6, t7, rfl⟩ := hI
  by_cases hk : k < 16
  ·have dk : decide (k < 16) = true := decide_eq_true hk
   have ik := ix_str (hexes_at hk) .i64
   have wk : wrapF .i64 (Int.ofNat k + Int.ofNat 1) = Int.ofNat (k + 1) := i64_add (by omega)
   by_cases q : hexD k = c
   ·have dq : decide (hexD k = c) = true := decide_eq_true q
    repeat' (first | ((with_reducible refine st1 ?_); (conv => whnf); (with_reducible refine ⟨?_⟩)) | ((with_reducible refine st_dw ?_ rfl rfl ?_ ?_); exact rfl; kernel_rfl; (conv => arg 5; whnf); (conv => arg 3; whnf)) | ((with_reducible refine retW_intro rfl ?_); (conv => arg 2; whnf)) | ((with_reducible first | refine iB ?_ ?_ | refine gWt ?_ ?_ | refine gWf ?_ ?_ | refine gXt ?_ ?_ | refine gXf ?_ ?_) <;> intro hb <;> (try simp only [hb])) | ((with_reducible show drawI _ _ _ _ _ _ _ _ _); first | ((with_reducible refine kI_rd ?_ ?_); exact rfl) | ((with_reducible apply kI_rg); exact rfl; exact rfl) | ((with_reducible refine kI_cv ?_ ?_ ?_); exact rfl; kernel_rfl) | ((with_reducible apply kI_al); exact rfl; exact rfl) | ((with_reducible refine kI_ex ?_ ?_ ?_ ?_ ?_); exact rfl; kernel_rfl; exact rfl) | ((with_reducible apply kI_eg); exact rfl; kernel_rfl; exact rfl) | ((with_reducible refine kI_nl ?_ ?_))) | ((with_reducible show eOk _ _ _ _ _ _); first | (exact eok_nil) | (refine ke_rd ?_ ?_ ?_; exact rfl) | (apply ke_rg; exact rfl; exact rfl) | (refine ke_cv ?_ ?_ ?_ ?_; exact rfl; kernel_rfl) | (apply ke_fl; exact rfl) | (apply ke_al; exact rfl; exact rfl)) | ((with_reducible refine freshIs_new ?_); kernel_rfl) | (simp only [B, xB, F, reduceLT, reduceLeDiff, reduceEqDiff, reduceAdd, reduceMul, reduceSub, ↓reduceIte, eq_self, t0, t4, t5, t6, t7, dk, e0, ik, ic, dq, wk]))
    exact ⟨16 - (k + 1), by omega, k + 1, rfl, rfl, by omega, by simp only [B, xB, F, reduceLT, reduceLeDiff, reduceEqDiff, reduceAdd, reduceMul, reduceSub, ↓reduceIte, eq_self, t0], by simp only [B, xB, F, reduceLT, reduceLeDiff, reduceEqDiff, reduceAdd, reduceMul, reduceSub, ↓reduceIte, eq_self, t4], by simp only [B, xB, F, reduceLT, reduceLeDiff, reduceEqDiff, reduceAdd, reduceMul, reduceSub, ↓reduceIte, eq_self, t5], by rw [vkI_s, if_pos ((hexD_iff hk).1 q)]; simp only [B, xB, F, reduceLT, reduceLeDiff, reduceEqDiff, reduceAdd, reduceMul, reduceSub, ↓reduceIte, eq_self], by simp only [B, xB, F, reduceLT, reduceLeDiff, reduceEqDiff, reduceAdd, reduceMul, reduceSub, ↓reduceIte, eq_self], rfl⟩
   ·have dq : decide (hexD k = c) = false := decide_eq_false q
    repeat' (first | ((with_reducible refine st1 ?_); (conv => whnf); (with_reducible refine ⟨?_⟩)) | ((with_reducible refine st_dw ?_ rfl rfl ?_ ?_); exact rfl; kernel_rfl; (conv => arg 5; whnf); (conv => arg 3; whnf)) | ((with_reducible refine retW_intro rfl ?_); (conv => arg 2; whnf)) | ((with_reducible first | refine iB ?_ ?_ | refine gWt ?_ ?_ | refine gWf ?_ ?_ | refine gXt ?_ ?_ | refine gXf ?_ ?_) <;> intro hb <;> (try simp only [hb])) | ((with_reducible show drawI _ _ _ _ _ _ _ _ _); first | ((with_reducible refine kI_rd ?_ ?_); exact rfl) | ((with_reducible apply kI_rg); exact rfl; exact rfl) | ((with_reducible refine kI_cv ?_ ?_ ?_); exact rfl; kernel_rfl) | ((with_reducible apply kI_al); exact rfl; exact rfl) | ((with_reducible refine kI_ex ?_ ?_ ?_ ?_ ?_); exact rfl; kernel_rfl; exact rfl) | ((with_reducible apply kI_eg); exact rfl; kernel_rfl; exact rfl) | ((with_reducible refine kI_nl ?_ ?_))) | ((with_reducible show eOk _ _ _ _ _ _); first | (exact eok_nil) | (refine ke_rd ?_ ?_ ?_; exact rfl) | (apply ke_rg; exact rfl; exact rfl) | (refine ke_cv ?_ ?_ ?_ ?_; exact rfl; kernel_rfl) | (apply ke_fl; exact rfl) | (apply ke_al; exact rfl; exact rfl)) | ((with_reducible refine freshIs_new ?_); kernel_rfl) | (simp only [B, xB, F, reduceLT, reduceLeDiff, reduceEqDiff, reduceAdd, reduceMul, reduceSub, ↓reduceIte, eq_self, t0, t4, t5, t6, t7, dk, e0, ik, ic, dq, wk]))
    exact ⟨16 - (k + 1), by omega, k + 1, rfl, rfl, by omega, by simp only [B, xB, F, reduceLT, reduceLeDiff, reduceEqDiff, reduceAdd, reduceMul, reduceSub, ↓reduceIte, eq_self, t0], by simp only [B, xB, F, reduceLT, reduceLeDiff, reduceEqDiff, reduceAdd, reduceMul, reduceSub, ↓reduceIte, eq_self, t4], by simp only [B, xB, F, reduceLT, reduceLeDiff, reduceEqDiff, reduceAdd, reduceMul, reduceSub, ↓reduceIte, eq_self, t5], by rw [vkI_s, if_neg (fun e => q ((hexD_iff hk).2 e))]; simp only [B, xB, F, reduceLT, reduceLeDiff, reduceEqDiff, reduceAdd, reduceMul, reduceSub, ↓reduceIte, eq_self, t6], by simp only [B, xB, F, reduceLT, reduceLeDiff, reduceEqDiff, reduceAdd, reduceMul, reduceSub, ↓reduceIte, eq_self], rfl⟩
  ·have dk : decide (k < 16) = false := decide_eq_false hk
   obtain rfl : k = 16:= by omega
   by_cases q : isHx c = true
   ·have e : vkI c 16 = Int.ofNat (hv c) := if_pos ⟨q, hv_lt q⟩
    rw [e] at t6
    have hn := numX_lt _ hx
    have hlt : numX (s.take i) < 281474976710656 := by
     have h7 : (16 : Nat) ^ 12 = 281474976710656:= by decide
     rw [← h7]
     exact Nat.lt_of_lt_of_le hn (Nat.pow_le_pow_right (by omega) (by rw [List.length_take]; omega))
    have hv16 := hv_lt q
    have hsn := numX_s hc
    obtain ⟨n, hn⟩ : ∃ n, n = numX (s.take i) := ⟨_, rfl⟩
    rw [← hn] at hsn t4 hlt
    have wm : wrapF .u64 (Int.ofNat 16 * Int.ofNat n) = Int.ofNat (16 * n) := u64_nat (a := 16 * n) (by omega)
    have wv : wrapF .u64 (Int.ofNat (hv c)) = Int.ofNat (hv c) := u64_nat (by omega)
    have wa : wrapF .u64 (Int.ofNat (16 * n) + Int.ofNat (hv c)) = Int.ofNat (16 * n + hv c) := u64_add (by omega)
    have wi : wrapF .i64 (Int.ofNat i + Int.ofNat 1) = Int.ofNat (i + 1) := i64_add (by omega)
    repeat' (first | ((with_reducible refine st1 ?_); (conv => whnf); (with_reducible refine ⟨?_⟩)) | ((with_reducible refine retW_intro rfl ?_); (conv => arg 2; whnf)) | ((with_reducible first | refine iB ?_ ?_ | refine gWt ?_ ?_ | refine gWf ?_ ?_) <;> intro hb <;> (try simp only [hb])) | (simp only [B, xB, F, reduceLT, reduceLeDiff, reduceEqDiff, reduceAdd, reduceMul, reduceSub, ↓reduceIte, eq_self, t0, t4, t5, t6, t7, dk, wm, wv, wa, wi]))
    refine ⟨s.length - (i + 1), by omega, i + 1, rfl, rfl, by omega, by simp only [B, xB, F, reduceLT, reduceLeDiff, reduceEqDiff, reduceAdd, reduceMul, reduceSub, ↓reduceIte, eq_self, t0], by rw [hsn, Nat.mul_comm]; simp only [B, xB, F, reduceLT, reduceLeDiff, reduceEqDiff, reduceAdd, reduceMul, reduceSub, ↓reduceIte, eq_self], by simp only [B, xB, F, reduceLT, reduceLeDiff, reduceEqDiff, reduceAdd, reduceMul, reduceSub, ↓reduceIte, eq_self], fun d hd => ?_, rfl⟩
    rw [List.take_add_one, hc, List.mem_append] at hd
    rcases hd with hd | hd
    ·exact hx d hd
    ·simp at hd; subst hd; exact q
   ·have e : vkI c 16 = -1 := if_neg (fun h => q h.1)
    have hno : numV s = .tuple [.int .u64 (.ofNat 0), .bool false] := if_neg (fun h => q (h c (List.mem_of_getElem? hc)))
    rw [e] at t6
    rw [hno]
    have d1 : decide ((-1 : Int) < Int.ofNat 0) = true := rfl
    repeat' (first | ((with_reducible refine st1 ?_); (conv => whnf); (with_reducible refine ⟨?_⟩)) | ((with_reducible refine retW_intro rfl ?_); (conv => arg 2; whnf)) | ((with_reducible first | refine iB ?_ ?_ | refine gWt ?_ ?_ | refine gWf ?_ ?_) <;> intro hb <;> (try simp only [hb])) | (simp only [B, xB, F, reduceLT, reduceLeDiff, reduceEqDiff, reduceAdd, reduceMul, reduceSub, ↓reduceIte, eq_self, t0, t4, t5, t6, t7, dk, d1]))
 ·have di : decide (i < s.length) = false := decide_eq_false hi
  obtain rfl : i = s.length:= by omega
  rw [List.take_length] at t4 hx
  have hyes : numV s = .tuple [.int .u64 (.ofNat (numX s)), .bool true] := if_pos hx
  rw [hyes]
  repeat' (first | ((with_reducible refine st1 ?_); (conv => whnf); (with_reducible refine ⟨?_⟩)) | ((with_reducible refine retW_intro rfl ?_); (conv => arg 2; whnf)) | ((with_reducible first | refine iB ?_ ?_ | refine gWt ?_ ?_ | refine gWf ?_ ?_) <;> intro hb <;> (try simp only [hb])) | (simp only [B, xB, F, reduceLT, reduceLeDiff, reduceEqDiff, reduceAdd, reduceMul, reduceSub, ↓reduceIte, eq_self, t0, t4, t5, di]))
end
end Go.Proofs.YtllmfnedkhiomaaGreatDoor.S

namespace Go.Proofs.YtllmfnedkhiomaaGreatDoor.S
open Go Go.AX
noncomputable section
set_option maxRecDepth 100000
def Ok1 (y : Rw) : Prop := OkRw y ∧ 0 < y.1 ∧ 0 < y.2.1
def Trk (R : List Rw) (i : Nat) (L : List Rw) (txt : List Nat) : Prop :=
 ∃ R2 q, R = L ++ R2 ∧ i = (allP L).length + q ∧ ((R2 = [] ∧ q = 0 ∧ txt = []) ∨ ∃ y R3, R2 = y :: R3 ∧ q < (prs y).length ∧ txt = (((prs y).take q).map (·.2)).flatten)
theorem allP_app (X Y : List Rw) : allP (X ++ Y) = allP X ++ allP Y:= by unfold allP; rw [List.flatMap_append]
theorem allP_cons (y : Rw) (Y : List Rw) : allP (y :: Y) = prs y ++ allP Y:= by unfold allP; rw [List.flatMap_cons]
theorem Trk.start (R : List Rw) : Trk R 0 [] [] := by
 refine ⟨R, 0, rfl, rfl, ?_⟩
 cases R with
 | nil => exact .inl ⟨rfl, rfl, rfl⟩
 | cons y R3 => exact .inr ⟨y, R3, rfl, List.length_pos_iff.2 (prs_ne y), rfl⟩
theorem Trk.done {R : List Rw} {L : List Rw} {txt : List Nat} (t : Trk R (allP R).length L txt) : R = L := by
 obtain ⟨R2, q, e, hi, h | ⟨y, R3, e2, hq, -⟩⟩ := t
 ·rw [e, h.1, List.append_nil]
 ·rw [e, e2, allP_app, allP_cons] at hi
  simp only [List.length_append] at hi
  omega
def lookB (Y : List Kp) (i : Nat) (k : List Nat) : Prop := ∃ p, Y[i + 1]? = some p ∧ p.1.length = 16 ∧ p.1.take 14 = k.take 14
theorem key_form {c i : Nat} (hc : c < 281474976710656) (hi : i < 256) : (keyP c i).length = 16 ∧ (keyP c i)[0]? = some 115 ∧ (keyP c i)[13]? = some 45 ∧ (((keyP c i).take 13).drop 1) = hexF c 12 ∧ (keyP c i).take 14 = 115 :: (hexF c 12 ++ [45]) := by
 have e := keyP_eq hc hi
 have h12 := hexF_len 12 c
 have h2 := hexF_len 2 i
 rw [e]
 refine ⟨by simp [h12, h2], rfl, ?_, ?_, ?_⟩
 ·rw [List.getElem?_cons_succ, List.getElem?_append_right (by omega), h12]; rfl
 ·show ((hexF c 12 ++ (45 :: hexF i 2)).take 12) = _
  have := List.take_left (l₁ := hexF c 12) (l₂ := 45 :: hexF i 2)
  rwa [h12] at this
 ·rw [List.take_succ_cons, List.take_append, h12, List.take_of_length_le (by omega)]; rfl
theorem hexF_inj {c d : Nat} (hc : c < 281474976710656) (hd : d < 281474976710656) (h : hexF c 12 = hexF d 12) : c = d := by
 have := hexF_num 12 c (by omega)
 rw [h, hexF_num 12 d (by omega)] at this
 exact this.symm
structure TrkAt (Y : List Kp) (i : Nat) (L : List Rw) (txt k p : List Nat) (y : Rw) : Prop where
 ok : Ok1 y
 len : k.length = 16
 k0 : k[0]? = some 115
 k13 : k[13]? = some 45
 hx : allHx ((k.take 13).drop 1)
 num : numX ((k.take 13).drop 1) = y.1
theorem trk_step {R L : List Rw} {i : Nat} {txt k p : List Nat} (hR : ∀ y, y ∈ R → Ok1 y) (nd : (R.map (·.1)).Nodup) (t : Trk R i L txt) (hY : (allP R)[i]? = some (k, p)) :
  ∃ y, TrkAt (allP R) i L txt k p y ∧ (lookB (allP R) i k → Trk R (i + 1) L (txt ++ p)) ∧ (¬ lookB (allP R) i k → txt ++ p = textP y.2.1 y.2.2 ∧ Trk R (i + 1) (L ++ [y]) []) := by
 obtain ⟨R2, q, e, hi, ⟨rfl, rfl, rfl⟩ | ⟨y, R3, rfl, hq, ht⟩⟩ := t
 ·rw [List.append_nil] at e
  subst e
  rw [hi, Nat.add_zero, List.getElem?_eq_none (Nat.le_refl _)] at hY
  cases hY
 ·have hy : Ok1 y := hR y (by rw [e]; simp)
  have hA : allP R = allP L ++ (prs y ++ allP R3):= by rw [e, allP_app, allP_cons]
  have h60 := prs_len hy.1
  have hq60 : q < 256:= by omega
  rw [hA, hi, List.getElem?_append_right (by omega), Nat.add_sub_cancel_left, List.getElem?_append_left hq] at hY
  obtain ⟨c, n, s⟩ := y
  have hq2 := hq
  rw [prs_len'] at hq2
  have hat := prs_at (c := c) hq2
  rw [hat] at hY
  obtain ⟨rfl, rfl⟩ : keyP c q = k ∧ pieceP (textP n s) q = p := by
   have := Option.some.inj hY
   exact Prod.mk.inj this
  have hc : c < 281474976710656 := hy.1.1
  obtain ⟨f1, f2, f3, f4, f5⟩ := key_form hc hq60
  have htk : (((prs (c, n, s)).take (q + 1)).map (·.2)).flatten = txt ++ pieceP (textP n s) q := by
   rw [List.take_add_one, hat, List.map_append, List.flatten_append, ← ht]
   simp
  refine ⟨(c, n, s), ⟨hy, f1, f2, f3, by rw [f4]; exact hexF_hx 12 c, by rw [f4]; exact hexF_num 12 c (by omega)⟩, ?_, ?_⟩
  ·rintro ⟨⟨k2, p2⟩, g1, g2, g3⟩
   by_cases hq1 : q + 1 < (prs (c, n, s)).length
   ·exact ⟨_, q + 1, e, by omega, .inr ⟨_, _, rfl, hq1, htk.symm⟩⟩
   ·exfalso
    rw [hA, hi, List.getElem?_append_right (by omega), List.getElem?_append_right (by omega)] at g1
    have hm := List.mem_of_getElem? g1
    obtain ⟨⟨d, m, u⟩, hd, hd2⟩ := List.mem_flatMap.1 hm
    have hdo : Ok1 (d, m, u) := hR _ (by rw [e]; simp [hd])
    have h60d := prs_len hdo.1
    rw [prs_len'] at h60d
    unfold prs at hd2
    obtain ⟨j, hj, ej⟩ := List.mem_map.1 hd2
    rw [List.mem_range] at hj
    have ek : keyP d j = k2 := (Prod.mk.inj ej).1
    subst ek
    obtain ⟨-, -, -, -, f5d⟩ := key_form (c := d) (i := j) hdo.1.1 (by simp only at hj; omega)
    simp only at g3
    rw [f5, f5d] at g3
    have g4 := (List.append_inj' (List.cons.inj g3).2 rfl).1
    have hcd := hexF_inj hdo.1.1 hc g4
    subst hcd
    rw [e, List.map_append, List.map_cons, List.nodup_append] at nd
    have := (List.nodup_cons.1 nd.2.1).1
    exact this (List.mem_map.2 ⟨_, hd, rfl⟩)
  ·intro hno
   have hq1 : ¬ q + 1 < (prs (c, n, s)).length := fun hq1 => hno (by
    refine ⟨(keyP c (q + 1), pieceP (textP n s) (q + 1)), ?_, ?_⟩
    ·rw [hA, hi, List.getElem?_append_right (by omega), List.getElem?_append_left (by omega), show (allP L).length + q + 1 - (allP L).length = q + 1 by omega]
     exact prs_at (by rwa [prs_len'] at hq1)
    ·obtain ⟨g1, -, -, -, g5⟩ := key_form (c := c) (i := q + 1) hc (by omega)
     exact ⟨g1, by rw [f5]; exact g5⟩)
   have hql : q + 1 = (prs (c, n, s)).length:= by omega
   refine ⟨by rw [← htk, hql, List.take_length]; exact prs_cat c n s, R3, 0, by rw [e, List.append_assoc]; rfl, ?_, ?_⟩
   ·rw [allP_app, List.length_append]
    have : allP [(c, n, s)] = prs (c, n, s):= by rw [allP_cons]; unfold allP; simp
    rw [this]; omega
   ·cases R3 with
    | nil => exact .inl ⟨rfl, rfl, rfl⟩
    | cons z R4 => exact .inr ⟨z, R4, rfl, List.length_pos_iff.2 (prs_ne z), rfl⟩
theorem rows_nodup : ∀ {L : List Rw}, ((allP L).map (·.1)).Nodup → (L.map (·.1)).Nodup
 | [], _ => List.nodup_nil
 | y :: L, h => by
  rw [allP_cons, List.map_append, List.nodup_append] at h
  have ih := rows_nodup (L := L) h.2.1
  rw [List.map_cons, List.nodup_cons]
  refine ⟨fun hm => ?_, ih⟩
  obtain ⟨z, hz, ez⟩ := List.mem_map.1 hm
  have first : ∀ w : Rw, keyP w.1 0 ∈ (prs w).map (·.1) := fun w => by
   have := List.length_pos_iff.2 (prs_ne w)
   obtain ⟨c, n, s⟩ := w
   rw [prs_len'] at this
   exact List.mem_map.2 ⟨_, List.mem_of_getElem? (prs_at (c := c) this), rfl⟩
  refine h.2.2 _ (first y) _ ?_ rfl
  rw [← ez]
  obtain ⟨p, hp, ep⟩ := List.mem_map.1 (first z)
  exact List.mem_map.2 ⟨p, List.mem_flatMap.2 ⟨z, hz, hp⟩, ep⟩
def GoodY (Y : List Kp) : Prop := ∃ R, ValB R ∧ allP R = Y
theorem val_nil (k : List Nat) (X : List Kp) (nd : (X.map (·.1)).Nodup) (p : Kp) (hp : p ∈ X) (hk : p.1 = k) : valX k X = p.2 := by
 subst hk
 have := (getS_some (k := p.1) nd p.2).2 hp
 rw [Bool.and_eq_true] at this
 exact of_decide_eq_true this.1
theorem sorted_perm {X : List Kp} (nd : (X.map (·.1)).Nodup) : (sortedY X).Perm X := by
 unfold sortedY
 have h1 : (sortS (X.map (·.1))).Perm (X.map (·.1)) := sortS_perm _
 refine (h1.map _).trans ?_
 rw [List.map_map]
 have : X.map ((fun k => (k, valX k X)) ∘ fun x => x.1) = X.map id := List.map_congr_left fun p hp => by
  show (p.1, valX p.1 X) = p
  rw [val_nil p.1 X nd p hp rfl]
 rw [this, List.map_id]
theorem goodY_iff {X : List Kp} (nd : (X.map (·.1)).Nodup) : GoodY (sortedY X) ↔ Good X := by
 constructor
 ·rintro ⟨R, hv, e⟩
  exact ⟨R, hv, by rw [e]; exact sorted_perm nd⟩
 ·rintro ⟨Bk, hv, hp⟩
  obtain ⟨R, hR, e, -⟩ := good_rows hv hp
  exact ⟨R, hv.perm hR.symm, e.symm⟩
end
end Go.Proofs.YtllmfnedkhiomaaGreatDoor.S

namespace Go.Proofs.YtllmfnedkhiomaaGreatDoor.S
open Go Go.AX
noncomputable section
set_option maxRecDepth 100000
structure Ol (b : Nat) (h h' : H) : Prop where
 nx : h.nx ≤ h'.nx
 ol : ∀ c, c < b → h'.t.get c = h.t.get c
 g : h'.g = h.g
theorem Og.ol {h h' : H} {S : List Nat} {b : Nat} (o : Og h h' S) (hb : b ≤ h.nx) (hS : ∀ c, c ∈ S → b ≤ c) : Ol b h h' := ⟨o.1.1, fun c hc => o.1.2 c (by omega) (fun q => by have := hS c q; omega), o.2⟩
theorem Ol.t {b : Nat} {h h1 h2 : H} (x : Ol b h h1) (y : Ol b h1 h2) : Ol b h h2 := ⟨Nat.le_trans x.nx y.nx, fun c hc => (y.ol c hc).trans (x.ol c hc), y.g.trans x.g⟩
set_option maxHeartbeats 4000000 in
theorem roRow (K : KQ) (tm : T AV) (h : H) (txt : List Nat) (c b : Nat) (L : List Rw) (v : AV) (t4 : tm.get 4 = some (.ptr b 0)) (t5 : tm.get 5 = some (.str txt)) (t8 : tm.get 8 = some (.int .u64 (.ofNat c)))
  (k : RfAt h b L v) (hL : L.length ≤ 1000) (ht : isBy txt) (hz : txt.length < 1000000) (hc : c < 281474976710656)
  (hF : ∀ tm2 h2, Ol b h h2 → tm2.get 2 = some .nilptr → tm2.get 3 = some (.int .i64 (.ofNat 4)) → ¬ (readOk txt = true ∧ 0 < c) → K .ret [] tm2 h2)
  (hK : ∀ tm2 h2 v2, readOk txt = true → 0 < c → RfAt h2 b (L ++ [(c, readV txt)]) v2 → Ol b h h2 → tm2.get 0 = tm.get 0 → tm2.get 4 = tm.get 4 → tm2.get 6 = tm.get 6 → tm2.get 5 = some (.str []) → K .norm [] tm2 h2) :
  codeW P 11 151 none (codeI (bodyC Tryz.f11) [1, 1, 1, 1, 1, 1, 0, 0, 1, 0, 0, 1, 0, 1, 1, 1]) [] tm h K := by
 have e0 : bytesOf { data := #[] } = [] := rfl
 have klt := k.lt
 obtain ⟨hnb, hnn, -⟩ := numR_by (bad := false) ht hz
 obtain ⟨h1, h1e⟩ : ∃ h1, h1 = h.newCells 77 [.str txt, .bool false] := ⟨_, rfl⟩
 have o1 : Og h h1 []:= by rw [h1e]; exact (Og.refl _ _).new _ _
 have x1 : h1.nx = h.nx + 1:= by rw [h1e]; rfl
 have rd1 : RdAt h1 h.nx txt false := ⟨by omega, by rw [h1e, cellAt_new, if_pos rfl]; rfl, by rw [h1e, cellAt_new, if_pos rfl]; rfl, by rw [h1e, wrAt_new, if_pos rfl]⟩
 repeat' (first | ((with_reducible refine st1 ?_); (conv => whnf); (with_reducible refine ⟨?_⟩)) | ((with_reducible refine retW_intro rfl ?_); (conv => arg 2; whnf)) | ((with_reducible first | refine iB ?_ ?_ | refine gWt ?_ ?_ | refine gWf ?_ ?_) <;> intro hb <;> (try simp only [hb])) | (simp only [B, xB, F, reduceLT, reduceLeDiff, reduceEqDiff, reduceAdd, reduceMul, reduceSub, ↓reduceIte, eq_self, t4, t5, t8, ← h1e]))
 refine ((rNumC h1 h.nx txt false rd1 ht hz).call P).mono P ?_
 rintro u h2 ⟨rfl, rd2, o2⟩
 obtain ⟨h3, h3e⟩ : ∃ h3, h3 = (h2.newCells 80 [.int .u64 (.ofNat 0), .int .u64 (.ofNat 0), .str []]).sts h2.nx 0 [.int .u64 (.ofNat c), .int .u64 (.ofNat (numR txt false).1), .str []] := ⟨_, rfl⟩
 have o3 : Og h2 h3 []:= by rw [h3e]; exact ((Og.refl _ _).new _ _).sts (.inr (Nat.le_refl _))
 have x2 := o2.1.1
 have x3 : h3.nx = h2.nx + 1:= by rw [h3e, nx_sts, nx_new]
 have wn : wrAt (h2.newCells 80 [.int .u64 (.ofNat 0), .int .u64 (.ofNat 0), .str []]) h2.nx = true:= by rw [wrAt_new, if_pos rfl]
 have w3 : wrAt h3 h2.nx = true:= by rw [h3e, wrAt_sts, wn]
 have r3 : ∀ j, j < 3 → cellAt h3 h2.nx j = [AV.int .u64 (.ofNat c), .int .u64 (.ofNat (numR txt false).1), .str []][j]? := fun j hj => by
  rw [h3e, cellAt_sts wn, if_pos ⟨rfl, Nat.zero_le _, by simpa using hj⟩, Nat.sub_zero]
 have rd3 := rd2.keep o3 (by simp)
 obtain ⟨n, hn⟩ : ∃ n, n = (numR txt false).1 := ⟨_, rfl⟩
 obtain ⟨r, hr⟩ : ∃ r, r = (numR txt false).2.1 := ⟨_, rfl⟩
 obtain ⟨bd, hbd⟩ : ∃ bd, bd = (numR txt false).2.2 := ⟨_, rfl⟩
 have hV : readV txt = (n, (textR r bd).1):= by unfold readV; rw [hn, hr, hbd]
 have hO : readOk txt = (!(textR r bd).2.2 && decide ((textR r bd).2.1 = []) && decide (0 < n) && decide ((textR r bd).1.length ≤ 4000)):= by unfold readOk; rw [hV, ← hr, ← hbd]
 rw [← hn] at r3 h3e
 rw [← hr, ← hbd] at rd3
 rw [← hr] at hnb hnn
 rw [← hn]
 have hn0 : n < M64:= by rw [hn]; exact (numR_by (bad := false) ht hz).2.2
 clear rd2
 repeat' (first | ((with_reducible refine st1 ?_); (conv => whnf); (with_reducible refine ⟨?_⟩)) | ((with_reducible refine retW_intro rfl ?_); (conv => arg 2; whnf)) | ((with_reducible first | refine iB ?_ ?_ | refine gWt ?_ ?_ | refine gWf ?_ ?_) <;> intro hb <;> (try simp only [hb])) | (simp only [B, xB, F, reduceLT, reduceLeDiff, reduceEqDiff, reduceAdd, reduceMul, reduceSub, ↓reduceIte, eq_self, t8, ← h3e]))
 refine ((rTextC h3 h.nx r bd rd3 hnb hnn).call P).mono P ?_
 rintro u h4 ⟨rfl, rd4, o4⟩
 obtain ⟨s, hs⟩ : ∃ s, s = (textR r bd).1 := ⟨_, rfl⟩
 rw [← hs] at hV hO ⊢
 have x4 := o4.1.1
 have w4 : wrAt h4 h2.nx = true := kw w3 o4 (by omega) (by simp; omega)
 have r4 : ∀ j, j < 3 → cellAt h4 h2.nx j = [AV.int .u64 (.ofNat c), .int .u64 (.ofNat n), .str []][j]? := fun j hj => by rw [cellAt_of_get (o4.1.2 h2.nx (by omega) (by simp; omega))]; exact r3 j hj
 obtain ⟨h5, h5e⟩ : ∃ h5, h5 = h4.sts h2.nx 2 [.str s] := ⟨_, rfl⟩
 have o5 : Og h4 h5 [h2.nx]:= by rw [h5e]; exact (Og.refl _ _).sts (.inl (by simp))
 have x5 : h5.nx = h4.nx:= by rw [h5e, nx_sts]
 have q0 : cellAt h5 h2.nx 0 = some (.int .u64 (.ofNat c)):= by rw [h5e, cellAt_sts w4, if_neg (by simp)]; exact r4 0 (by omega)
 have q1 : cellAt h5 h2.nx 1 = some (.int .u64 (.ofNat n)):= by rw [h5e, cellAt_sts w4, if_neg (by simp)]; exact r4 1 (by omega)
 have q2 : cellAt h5 h2.nx 2 = some (.str s):= by rw [h5e, cellAt_sts w4, if_pos ⟨rfl, Nat.le_refl _, by simp⟩]; rfl
 have rd5 := rd4.keep o5 (by simp; omega)
 have hfr : ∀ c, c < h.nx → h5.t.get c = h.t.get c := fun c hc => by
  rw [o5.1.2 c (by omega) (by simp; omega), o4.1.2 c (by omega) (by simp; omega), o3.1.2 c (by omega) (by simp), o2.1.2 c (by omega) (by simp; omega), o1.1.2 c hc (by simp)]
 have hgg : h5.g = h.g:= by rw [o5.2, o4.2, o3.2, o2.2, o1.2]
 have ol5 : Ol b h h5 := ⟨by omega, fun c hc => hfr c (by omega), hgg⟩
 have og5 : Og h h5 [] := ⟨⟨by omega, fun c hc _ => hfr c hc⟩, hgg⟩
 have k5 := k.keep og5 (by simp)
 repeat' (first | ((with_reducible refine st1 ?_); (conv => whnf); (with_reducible refine ⟨?_⟩)) | ((with_reducible refine retW_intro rfl ?_); (conv => arg 2; whnf)) | ((with_reducible first | refine iB ?_ ?_ | refine gWt ?_ ?_ | refine gWf ?_ ?_) <;> intro hb <;> (try simp only [hb])) | (simp only [B, xB, F, reduceLT, reduceLeDiff, reduceEqDiff, reduceAdd, reduceMul, reduceSub, ↓reduceIte, eq_self, w4, r4, ← h5e]))
 refine ((rEndC h5 h.nx _ _ rd5).call P).mono P ?_
 rintro u h6 ⟨rfl, o6⟩
 have x6 := o6.1.1
 have ol6 : Ol b h h6 := ol5.t (o6.ol (by omega) (by simp))
 have q06 := kc q0 o6 (by omega) (by simp)
 have q16 := kc q1 o6 (by omega) (by simp)
 have q26 := kc q2 o6 (by omega) (by simp)
 have k6 := k5.keep o6 (by simp)
 cases hE : (!(textR r bd).2.2 && decide ((textR r bd).2.1 = [])) with
 | false =>
  repeat' (first | ((with_reducible refine st1 ?_); (conv => whnf); (with_reducible refine ⟨?_⟩)) | ((with_reducible refine retW_intro rfl ?_); (conv => arg 2; whnf)) | ((with_reducible first | refine iB ?_ ?_ | refine gWt ?_ ?_ | refine gWf ?_ ?_) <;> intro hb <;> (try simp only [hb])) | (simp only [B, xB, F, reduceLT, reduceLeDiff, reduceEqDiff, reduceAdd, reduceMul, reduceSub, ↓reduceIte, eq_self, t8, Bool.not_false]))
  exact hF _ _ ol6 (by simp only [B, xB, F, reduceLT, reduceLeDiff, reduceEqDiff, reduceAdd, reduceMul, reduceSub, ↓reduceIte, eq_self]) (by simp only [B, xB, F, reduceLT, reduceLeDiff, reduceEqDiff, reduceAdd, reduceMul, reduceSub, ↓reduceIte, eq_self]) (fun h => by rw [hO, hE] at h; simp at h)
 | true =>
 rw [hE, Bool.true_and] at hO
 by_cases p1 : n = 0
 ·have d1 : decide (n = 0) = true := decide_eq_true p1
  repeat' (first | ((with_reducible refine st1 ?_); (conv => whnf); (with_reducible refine ⟨?_⟩)) | ((with_reducible refine retW_intro rfl ?_); (conv => arg 2; whnf)) | ((with_reducible first | refine iB ?_ ?_ | refine gWt ?_ ?_ | refine gWf ?_ ?_) <;> intro hb <;> (try simp only [hb])) | (simp only [B, xB, F, reduceLT, reduceLeDiff, reduceEqDiff, reduceAdd, reduceMul, reduceSub, ↓reduceIte, eq_self, t8, Bool.not_true, q06, q16, q26, d1]))
  exact hF _ _ ol6 (by simp only [B, xB, F, reduceLT, reduceLeDiff, reduceEqDiff, reduceAdd, reduceMul, reduceSub, ↓reduceIte, eq_self]) (by simp only [B, xB, F, reduceLT, reduceLeDiff, reduceEqDiff, reduceAdd, reduceMul, reduceSub, ↓reduceIte, eq_self]) (fun h => by rw [hO, p1] at h; simp at h)
 have d1 : decide (n = 0) = false := decide_eq_false p1
 by_cases p2 : c = 0
 ·have d2 : decide (c = 0) = true := decide_eq_true p2
  repeat' (first | ((with_reducible refine st1 ?_); (conv => whnf); (with_reducible refine ⟨?_⟩)) | ((with_reducible refine retW_intro rfl ?_); (conv => arg 2; whnf)) | ((with_reducible first | refine iB ?_ ?_ | refine gWt ?_ ?_ | refine gWf ?_ ?_) <;> intro hb <;> (try simp only [hb])) | (simp only [B, xB, F, reduceLT, reduceLeDiff, reduceEqDiff, reduceAdd, reduceMul, reduceSub, ↓reduceIte, eq_self, t8, Bool.not_true, q06, q16, q26, d1, d2]))
  exact hF _ _ ol6 (by simp only [B, xB, F, reduceLT, reduceLeDiff, reduceEqDiff, reduceAdd, reduceMul, reduceSub, ↓reduceIte, eq_self]) (by simp only [B, xB, F, reduceLT, reduceLeDiff, reduceEqDiff, reduceAdd, reduceMul, reduceSub, ↓reduceIte, eq_self]) (fun h => by have := h.2; omega)
 have d2 : decide (c = 0) = false := decide_eq_false p2
 by_cases p3 : 4000 < s.length
 ·have d3 : decide (4000 < s.length) = true := decide_eq_true p3
  repeat' (first | ((with_reducible refine st1 ?_); (conv => whnf); (with_reducible refine ⟨?_⟩)) | ((with_reducible refine retW_intro rfl ?_); (conv => arg 2; whnf)) | ((with_reducible first | refine iB ?_ ?_ | refine gWt ?_ ?_ | refine gWf ?_ ?_) <;> intro hb <;> (try simp only [hb])) | (simp only [B, xB, F, reduceLT, reduceLeDiff, reduceEqDiff, reduceAdd, reduceMul, reduceSub, ↓reduceIte, eq_self, t8, Bool.not_true, q06, q16, q26, d1, d2, d3]))
  exact hF _ _ ol6 (by simp only [B, xB, F, reduceLT, reduceLeDiff, reduceEqDiff, reduceAdd, reduceMul, reduceSub, ↓reduceIte, eq_self]) (by simp only [B, xB, F, reduceLT, reduceLeDiff, reduceEqDiff, reduceAdd, reduceMul, reduceSub, ↓reduceIte, eq_self]) (fun h => by rw [hO] at h; simp at h; omega)
 have d3 : decide (4000 < s.length) = false := decide_eq_false p3
 have c06 := k6.c0
 have wr6 := k6.wr
 have gr6 := k6.gr
 have gr1 := gr6.one
 obtain ⟨h7, h7e⟩ : ∃ h7, h7 = h6.newCells 80 [.int .u64 (.ofNat c), .int .u64 (.ofNat n), .str s] := ⟨_, rfl⟩
 have o7 : Og h6 h7 []:= by rw [h7e]; exact (Og.refl _ _).new _ _
 have x7 : h7.nx = h6.nx + 1:= by rw [h7e]; rfl
 have hrow : h7.row h6.nx 0 3 = some [.int .u64 (.ofNat c), .int .u64 (.ofNat n), .str s] := row_ok (o := 0) (cs := [.int .u64 (.ofNat c), .int .u64 (.ofNat n), .str s]) (fun j hj => by rw [h7e, cellAt_new, Nat.zero_add, if_pos rfl]) (by simp)
 have g7 : Grows 3 (b + 1) h7 v _ _ := gr6.of_get o7.1.1 (fun c e => o7.1.2 c (gr6.base e).2 (by simp))
 have k7 := k6.keep o7 (by simp)
 have c07 := k7.c0
 have wr7 := k7.wr
 repeat' (first | ((with_reducible refine st1 ?_); (conv => whnf); (with_reducible refine ⟨?_⟩)) | ((with_reducible refine st_dw ?_ rfl rfl ?_ ?_); exact rfl; kernel_rfl; (conv => arg 5; whnf); (conv => arg 3; whnf)) | ((with_reducible refine retW_intro rfl ?_); (conv => arg 2; whnf)) | ((with_reducible first | refine iB ?_ ?_ | refine gWt ?_ ?_ | refine gWf ?_ ?_ | refine gXt ?_ ?_ | refine gXf ?_ ?_) <;> intro hb <;> (try simp only [hb])) | ((with_reducible show drawI _ _ _ _ _ _ _ _ _); first | ((with_reducible refine kI_rd ?_ ?_); exact rfl) | ((with_reducible apply kI_rg); exact rfl; exact rfl) | ((with_reducible refine kI_cv ?_ ?_ ?_); exact rfl; kernel_rfl) | ((with_reducible apply kI_al); exact rfl; exact rfl) | ((with_reducible refine kI_ex ?_ ?_ ?_ ?_ ?_); exact rfl; kernel_rfl; exact rfl) | ((with_reducible apply kI_eg); exact rfl; kernel_rfl; exact rfl) | ((with_reducible refine kI_nl ?_ ?_))) | ((with_reducible show eOk _ _ _ _ _ _); first | (exact eok_nil) | (refine ke_rd ?_ ?_ ?_; exact rfl) | (apply ke_rg; exact rfl; exact rfl) | (refine ke_cv ?_ ?_ ?_ ?_; exact rfl; kernel_rfl) | (apply ke_fl; exact rfl) | (apply ke_al; exact rfl; exact rfl)) | ((with_reducible refine freshIs_new ?_); kernel_rfl) | (simp only [B, xB, F, reduceLT, reduceLeDiff, reduceEqDiff, reduceAdd, reduceMul, reduceSub, ↓reduceIte, eq_self, t4, t8, Bool.not_true, q06, q16, q26, d1, d2, d3, c06, c07, gr1, ← h7e, hrow]))
 refine exW_growsG (m := 1) (new := [.int .u64 (.ofNat c), .int .u64 (.ofNat n), .str s]) g7 (by omega) (by omega) (by omega) rfl (by omega) (fun v8 h8 g8 x8 old8 blk8 gg8 => ?_)
 have hbv : ∀ c, c ≤ b → blkOf v ≠ some c := fun c hc e => by have := (gr6.base e).1; omega
 have c08 : cellAt h8 b 0 = some v:= by rw [cellAt_of_get (old8 b (by omega) (hbv b (Nat.le_refl _)))]; exact c07
 have wr8 : wrAt h8 b = true:= by rw [wrAt_of_get (old8 b (by omega) (hbv b (Nat.le_refl _)))]; exact wr7
 have g8o := g8.one
 have hv8 : v8.cells = [v8]:= by cases g8 <;> rfl
 have s8 := fun h => st49 h v8 hv8 b 0
 obtain ⟨h9, h9e⟩ : ∃ h9, h9 = h8.sts b 0 [v8] := ⟨_, rfl⟩
 have x9 : h9.nx = h8.nx:= by rw [h9e, nx_sts]
 have n9 : ∀ c, c ≠ b → h9.t.get c = h8.t.get c := fun c hc => by rw [h9e]; exact get_sts _ _ _ _ hc
 repeat' (first | ((with_reducible refine st1 ?_); (conv => whnf); (with_reducible refine ⟨?_⟩)) | ((with_reducible refine st_dw ?_ rfl rfl ?_ ?_); exact rfl; kernel_rfl; (conv => arg 5; whnf); (conv => arg 3; whnf)) | ((with_reducible refine retW_intro rfl ?_); (conv => arg 2; whnf)) | ((with_reducible first | refine iB ?_ ?_ | refine gWt ?_ ?_ | refine gWf ?_ ?_ | refine gXt ?_ ?_ | refine gXf ?_ ?_) <;> intro hb <;> (try simp only [hb])) | ((with_reducible show drawI _ _ _ _ _ _ _ _ _); first | ((with_reducible refine kI_rd ?_ ?_); exact rfl) | ((with_reducible apply kI_rg); exact rfl; exact rfl) | ((with_reducible refine kI_cv ?_ ?_ ?_); exact rfl; kernel_rfl) | ((with_reducible apply kI_al); exact rfl; exact rfl) | ((with_reducible refine kI_ex ?_ ?_ ?_ ?_ ?_); exact rfl; kernel_rfl; exact rfl) | ((with_reducible apply kI_eg); exact rfl; kernel_rfl; exact rfl) | ((with_reducible refine kI_nl ?_ ?_))) | ((with_reducible show eOk _ _ _ _ _ _); first | (exact eok_nil) | (refine ke_rd ?_ ?_ ?_; exact rfl) | (apply ke_rg; exact rfl; exact rfl) | (refine ke_cv ?_ ?_ ?_ ?_; exact rfl; kernel_rfl) | (apply ke_fl; exact rfl) | (apply ke_al; exact rfl; exact rfl)) | ((with_reducible refine freshIs_new ?_); kernel_rfl) | (simp only [B, xB, F, reduceLT, reduceLeDiff, reduceEqDiff, reduceAdd, reduceMul, reduceSub, ↓reduceIte, eq_self, t4, t8, c08, wr8, g8o, s8, e0, ← h9e]))
 refine hK _ _ v8 (by rw [hO]; simp; omega) (by omega) ⟨by omega, by rw [h9e, cellAt_sts wr8, if_pos ⟨rfl, Nat.le_refl _, by simp⟩]; rfl, by rw [h9e, wrAt_sts]; exact wr8, ?_⟩ ⟨by have := ol6.nx; omega, fun d hd => ?_, ?_⟩ (by simp only [B, xB, F, reduceLT, reduceLeDiff, reduceEqDiff, reduceAdd, reduceMul, reduceSub, ↓reduceIte, eq_self]) (by simp only [B, xB, F, reduceLT, reduceLeDiff, reduceEqDiff, reduceAdd, reduceMul, reduceSub, ↓reduceIte, eq_self]) (by simp only [B, xB, F, reduceLT, reduceLeDiff, reduceEqDiff, reduceAdd, reduceMul, reduceSub, ↓reduceIte, eq_self]) (by simp only [B, xB, F, reduceLT, reduceLeDiff, reduceEqDiff, reduceAdd, reduceMul, reduceSub, ↓reduceIte, eq_self])
 ·have hrw : rwsC (L ++ [(c, readV txt)]) = rwsC L ++ [.int .u64 (.ofNat c), .int .u64 (.ofNat n), .str s] := by
   unfold rwsC; rw [List.flatMap_append, hV]; rfl
  rw [hrw, List.length_append]
  exact g8.of_get (by omega) (fun d e => n9 d (by have := (g8.base e).1; omega))
 ·rw [n9 d (by omega), old8 d (by have := ol6.nx; omega) (hbv d (by omega)), o7.1.2 d (by have := ol6.nx; omega) (by simp)]; exact ol6.ol d hd
 ·rw [h9e, g_sts, gg8, o7.2, ol6.g]
end
end Go.Proofs.YtllmfnedkhiomaaGreatDoor.S


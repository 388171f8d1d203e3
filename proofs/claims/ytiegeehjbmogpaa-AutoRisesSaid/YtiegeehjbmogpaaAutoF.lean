/-
  auto: AutoTells, walked.
-/
import Derived.Test.YtiegeehjbmogpaaAutoE
set_option linter.unusedSimpArgs false
set_option linter.unusedVariables false
namespace Go.Proofs.Ytiegeehjbmogpaa.W
open Go Go.AX
noncomputable section


set_option maxRecDepth 1000000 in
theorem worksG : groundAt P noHook 20000 8 [] = some (.bool true) := by kernel_rfl

theorem worksC (h : H) {Q : AV → H → Prop} (hq : Q (.bool true) h) : CallC P (.enter 8 [] h) Q := callC_closed worksG hq

def PostTrue (v : AV) (_ : H) : Prop := v = .bool true

theorem tellsBad (h : H) (e : Int) (k : Nat) (vl : AV) (hbad : badArg e k = true) : codeW P 3 89 none (bodyC Try.f3) [] (T.fill .e 0 [.int .i64 e, .int .u64 (.ofNat k), vl]) h (retK P Try.f3 PostTrue) := by
  refine codeW_root ?_
  repeat' (first
    | ((with_reducible refine st_seq ?_ ?_); (exact rfl))
    | ((with_reducible refine st_reg ?_ rfl rfl ?_); (exact rfl); (conv => arg 4; whnf); (conv => arg 3; whnf); simp only [B, F, Nat.reduceLT, Nat.reduceLeDiff, Nat.reduceEqDiff, Nat.reduceAdd, Nat.reduceMul, Nat.reduceSub, ↓reduceIte, eq_self])
    | ((with_reducible refine st_drawn ?_ rfl rfl ?_ ?_); (exact rfl); (kernel_rfl); (conv => arg 4; whnf); (conv => arg 3; whnf); simp only [B, F, Nat.reduceLT, Nat.reduceLeDiff, Nat.reduceEqDiff, Nat.reduceAdd, Nat.reduceMul, Nat.reduceSub, ↓reduceIte, eq_self])
    | ((with_reducible refine st_cond ?_ rfl ?_); (exact rfl); (conv => arg 1; arg 2; whnf); simp only [B, F, Nat.reduceLT, Nat.reduceLeDiff, Nat.reduceEqDiff, Nat.reduceAdd, Nat.reduceMul, Nat.reduceSub, ↓reduceIte, eq_self])
    | ((with_reducible refine ifB_split (fun hb => ?_) (fun hb => ?_)) <;> simp only [hb, B, F, Nat.reduceLT, Nat.reduceLeDiff, Nat.reduceEqDiff, Nat.reduceAdd, Nat.reduceMul, Nat.reduceSub, ↓reduceIte, eq_self])
    | ((with_reducible refine gW_split (fun hb => ?_) (fun hb => ?_)) <;> (try rw [Bool.not_true] at hb) <;> (try rw [Bool.not_false] at hb) <;> simp only [hb, B, F, Nat.reduceLT, Nat.reduceLeDiff, Nat.reduceEqDiff, Nat.reduceAdd, Nat.reduceMul, Nat.reduceSub, ↓reduceIte, eq_self])
    | ((with_reducible refine st_block ?_ rfl ?_); (exact rfl); (conv => arg 9; arg 1; whnf))
    | ((with_reducible refine st_skip ?_ ?_); (exact rfl); simp only [B, F, Nat.reduceLT, Nat.reduceLeDiff, Nat.reduceEqDiff, Nat.reduceAdd, Nat.reduceMul, Nat.reduceSub, ↓reduceIte, eq_self])
    | ((with_reducible refine st_exit ?_ rfl ?_); (exact rfl); (conv in exitId _ => whnf); simp only [B, F, Nat.reduceLT, Nat.reduceLeDiff, Nat.reduceEqDiff, Nat.reduceAdd, Nat.reduceMul, Nat.reduceSub, ↓reduceIte, eq_self])
    | ((with_reducible refine st_ret ?_ ?_); (exact rfl); try simp only [B, F, Nat.reduceLT, Nat.reduceLeDiff, Nat.reduceEqDiff, Nat.reduceAdd, Nat.reduceMul, Nat.reduceSub, ↓reduceIte, eq_self])
    | ((with_reducible refine retW_intro rfl ?_); (conv => arg 2; whnf); simp only [B, F, Nat.reduceLT, Nat.reduceLeDiff, Nat.reduceEqDiff, Nat.reduceAdd, Nat.reduceMul, Nat.reduceSub, ↓reduceIte, eq_self]))
  refine ((newBad h e k hbad).call P).mono P ?_
  rintro v h' ⟨rfl, rfl⟩
  simp only [B, F, Nat.reduceLT, Nat.reduceLeDiff, Nat.reduceEqDiff, Nat.reduceAdd, Nat.reduceMul, Nat.reduceSub, ↓reduceIte, eq_self]
  repeat' (first
    | ((with_reducible refine st_seq ?_ ?_); (exact rfl))
    | ((with_reducible refine st_reg ?_ rfl rfl ?_); (exact rfl); (conv => arg 4; whnf); (conv => arg 3; whnf); simp only [B, F, Nat.reduceLT, Nat.reduceLeDiff, Nat.reduceEqDiff, Nat.reduceAdd, Nat.reduceMul, Nat.reduceSub, ↓reduceIte, eq_self])
    | ((with_reducible refine st_drawn ?_ rfl rfl ?_ ?_); (exact rfl); (kernel_rfl); (conv => arg 4; whnf); (conv => arg 3; whnf); simp only [B, F, Nat.reduceLT, Nat.reduceLeDiff, Nat.reduceEqDiff, Nat.reduceAdd, Nat.reduceMul, Nat.reduceSub, ↓reduceIte, eq_self])
    | ((with_reducible refine st_cond ?_ rfl ?_); (exact rfl); (conv => arg 1; arg 2; whnf); simp only [B, F, Nat.reduceLT, Nat.reduceLeDiff, Nat.reduceEqDiff, Nat.reduceAdd, Nat.reduceMul, Nat.reduceSub, ↓reduceIte, eq_self])
    | ((with_reducible refine ifB_split (fun hb => ?_) (fun hb => ?_)) <;> simp only [hb, B, F, Nat.reduceLT, Nat.reduceLeDiff, Nat.reduceEqDiff, Nat.reduceAdd, Nat.reduceMul, Nat.reduceSub, ↓reduceIte, eq_self])
    | ((with_reducible refine gW_split (fun hb => ?_) (fun hb => ?_)) <;> (try rw [Bool.not_true] at hb) <;> (try rw [Bool.not_false] at hb) <;> simp only [hb, B, F, Nat.reduceLT, Nat.reduceLeDiff, Nat.reduceEqDiff, Nat.reduceAdd, Nat.reduceMul, Nat.reduceSub, ↓reduceIte, eq_self])
    | ((with_reducible refine st_block ?_ rfl ?_); (exact rfl); (conv => arg 9; arg 1; whnf))
    | ((with_reducible refine st_skip ?_ ?_); (exact rfl); simp only [B, F, Nat.reduceLT, Nat.reduceLeDiff, Nat.reduceEqDiff, Nat.reduceAdd, Nat.reduceMul, Nat.reduceSub, ↓reduceIte, eq_self])
    | ((with_reducible refine st_exit ?_ rfl ?_); (exact rfl); (conv in exitId _ => whnf); simp only [B, F, Nat.reduceLT, Nat.reduceLeDiff, Nat.reduceEqDiff, Nat.reduceAdd, Nat.reduceMul, Nat.reduceSub, ↓reduceIte, eq_self])
    | ((with_reducible refine st_ret ?_ ?_); (exact rfl); try simp only [B, F, Nat.reduceLT, Nat.reduceLeDiff, Nat.reduceEqDiff, Nat.reduceAdd, Nat.reduceMul, Nat.reduceSub, ↓reduceIte, eq_self])
    | ((with_reducible refine retW_intro rfl ?_); (conv => arg 2; whnf); simp only [B, F, Nat.reduceLT, Nat.reduceLeDiff, Nat.reduceEqDiff, Nat.reduceAdd, Nat.reduceMul, Nat.reduceSub, ↓reduceIte, eq_self]))
  refine ((refBad _ e k hbad).call P).mono P ?_
  rintro v h' ⟨rfl, rfl⟩
  simp only [B, F, Nat.reduceLT, Nat.reduceLeDiff, Nat.reduceEqDiff, Nat.reduceAdd, Nat.reduceMul, Nat.reduceSub, ↓reduceIte, eq_self]
  repeat' (first
    | ((with_reducible refine st_seq ?_ ?_); (exact rfl))
    | ((with_reducible refine st_reg ?_ rfl rfl ?_); (exact rfl); (conv => arg 4; whnf); (conv => arg 3; whnf); simp only [B, F, Nat.reduceLT, Nat.reduceLeDiff, Nat.reduceEqDiff, Nat.reduceAdd, Nat.reduceMul, Nat.reduceSub, ↓reduceIte, eq_self])
    | ((with_reducible refine st_drawn ?_ rfl rfl ?_ ?_); (exact rfl); (kernel_rfl); (conv => arg 4; whnf); (conv => arg 3; whnf); simp only [B, F, Nat.reduceLT, Nat.reduceLeDiff, Nat.reduceEqDiff, Nat.reduceAdd, Nat.reduceMul, Nat.reduceSub, ↓reduceIte, eq_self])
    | ((with_reducible refine st_cond ?_ rfl ?_); (exact rfl); (conv => arg 1; arg 2; whnf); simp only [B, F, Nat.reduceLT, Nat.reduceLeDiff, Nat.reduceEqDiff, Nat.reduceAdd, Nat.reduceMul, Nat.reduceSub, ↓reduceIte, eq_self])
    | ((with_reducible refine ifB_split (fun hb => ?_) (fun hb => ?_)) <;> simp only [hb, B, F, Nat.reduceLT, Nat.reduceLeDiff, Nat.reduceEqDiff, Nat.reduceAdd, Nat.reduceMul, Nat.reduceSub, ↓reduceIte, eq_self])
    | ((with_reducible refine gW_split (fun hb => ?_) (fun hb => ?_)) <;> (try rw [Bool.not_true] at hb) <;> (try rw [Bool.not_false] at hb) <;> simp only [hb, B, F, Nat.reduceLT, Nat.reduceLeDiff, Nat.reduceEqDiff, Nat.reduceAdd, Nat.reduceMul, Nat.reduceSub, ↓reduceIte, eq_self])
    | ((with_reducible refine st_block ?_ rfl ?_); (exact rfl); (conv => arg 9; arg 1; whnf))
    | ((with_reducible refine st_skip ?_ ?_); (exact rfl); simp only [B, F, Nat.reduceLT, Nat.reduceLeDiff, Nat.reduceEqDiff, Nat.reduceAdd, Nat.reduceMul, Nat.reduceSub, ↓reduceIte, eq_self])
    | ((with_reducible refine st_exit ?_ rfl ?_); (exact rfl); (conv in exitId _ => whnf); simp only [B, F, Nat.reduceLT, Nat.reduceLeDiff, Nat.reduceEqDiff, Nat.reduceAdd, Nat.reduceMul, Nat.reduceSub, ↓reduceIte, eq_self])
    | ((with_reducible refine st_ret ?_ ?_); (exact rfl); try simp only [B, F, Nat.reduceLT, Nat.reduceLeDiff, Nat.reduceEqDiff, Nat.reduceAdd, Nat.reduceMul, Nat.reduceSub, ↓reduceIte, eq_self])
    | ((with_reducible refine retW_intro rfl ?_); (conv => arg 2; whnf); simp only [B, F, Nat.reduceLT, Nat.reduceLeDiff, Nat.reduceEqDiff, Nat.reduceAdd, Nat.reduceMul, Nat.reduceSub, ↓reduceIte, eq_self]))
  refine worksC _ ?_
  simp only [B, F, Nat.reduceLT, Nat.reduceLeDiff, Nat.reduceEqDiff, Nat.reduceAdd, Nat.reduceMul, Nat.reduceSub, ↓reduceIte, eq_self]
  repeat' (first
    | ((with_reducible refine st_seq ?_ ?_); (exact rfl))
    | ((with_reducible refine st_reg ?_ rfl rfl ?_); (exact rfl); (conv => arg 4; whnf); (conv => arg 3; whnf); simp only [B, F, Nat.reduceLT, Nat.reduceLeDiff, Nat.reduceEqDiff, Nat.reduceAdd, Nat.reduceMul, Nat.reduceSub, ↓reduceIte, eq_self])
    | ((with_reducible refine st_drawn ?_ rfl rfl ?_ ?_); (exact rfl); (kernel_rfl); (conv => arg 4; whnf); (conv => arg 3; whnf); simp only [B, F, Nat.reduceLT, Nat.reduceLeDiff, Nat.reduceEqDiff, Nat.reduceAdd, Nat.reduceMul, Nat.reduceSub, ↓reduceIte, eq_self])
    | ((with_reducible refine st_cond ?_ rfl ?_); (exact rfl); (conv => arg 1; arg 2; whnf); simp only [B, F, Nat.reduceLT, Nat.reduceLeDiff, Nat.reduceEqDiff, Nat.reduceAdd, Nat.reduceMul, Nat.reduceSub, ↓reduceIte, eq_self])
    | ((with_reducible refine ifB_split (fun hb => ?_) (fun hb => ?_)) <;> simp only [hb, B, F, Nat.reduceLT, Nat.reduceLeDiff, Nat.reduceEqDiff, Nat.reduceAdd, Nat.reduceMul, Nat.reduceSub, ↓reduceIte, eq_self])
    | ((with_reducible refine gW_split (fun hb => ?_) (fun hb => ?_)) <;> (try rw [Bool.not_true] at hb) <;> (try rw [Bool.not_false] at hb) <;> simp only [hb, B, F, Nat.reduceLT, Nat.reduceLeDiff, Nat.reduceEqDiff, Nat.reduceAdd, Nat.reduceMul, Nat.reduceSub, ↓reduceIte, eq_self])
    | ((with_reducible refine st_block ?_ rfl ?_); (exact rfl); (conv => arg 9; arg 1; whnf))
    | ((with_reducible refine st_skip ?_ ?_); (exact rfl); simp only [B, F, Nat.reduceLT, Nat.reduceLeDiff, Nat.reduceEqDiff, Nat.reduceAdd, Nat.reduceMul, Nat.reduceSub, ↓reduceIte, eq_self])
    | ((with_reducible refine st_exit ?_ rfl ?_); (exact rfl); (conv in exitId _ => whnf); simp only [B, F, Nat.reduceLT, Nat.reduceLeDiff, Nat.reduceEqDiff, Nat.reduceAdd, Nat.reduceMul, Nat.reduceSub, ↓reduceIte, eq_self])
    | ((with_reducible refine st_ret ?_ ?_); (exact rfl); try simp only [B, F, Nat.reduceLT, Nat.reduceLeDiff, Nat.reduceEqDiff, Nat.reduceAdd, Nat.reduceMul, Nat.reduceSub, ↓reduceIte, eq_self])
    | ((with_reducible refine retW_intro rfl ?_); (conv => arg 2; whnf); simp only [B, F, Nat.reduceLT, Nat.reduceLeDiff, Nat.reduceEqDiff, Nat.reduceAdd, Nat.reduceMul, Nat.reduceSub, ↓reduceIte, eq_self]))
  rfl

theorem SliceAt.blk {h : H} {v : AV} {n : Nat} {cs : List AV} (hs : SliceAt h v n cs) : ∀ c, blkOf v = some c → c < h.nx := by
  intro c hc
  cases hs with
  | none => cases hc
  | zero => cases hc
  | cell b o n cap cs hb => cases hc; exact hb

structure TInv (vl : AV) (l : List Nat) (e k lo hi a base b : Nat) (n : Nat) (ds : List Nat) (tm : T AV) (h : H) (i told : Nat) (s : AS) : Prop where
  ds : ds = []
  nn : n = l.length - i
  ii : i ≤ l.length ∧ i ≤ 100
  t2 : tm.get 2 = some vl
  t7 : tm.get 7 = some (.ptr a 0)
  t9 : tm.get 9 = some (.ptr b 0)
  t11 : tm.get 11 = some (.int .i64 (.ofNat i))
  pa : ProgAt h lo hi a s
  ra : RefR h base b e k (l.take i) told
  sim : Sim e k (l.take i) s told
  sl : SliceAt h vl l.length (u64s l)

def TI (vl : AV) (l : List Nat) (e k lo hi a base b : Nat) (n : Nat) (ds : List Nat) (tm : T AV) (h : H) : Prop := ∃ i told s, TInv vl l e k lo hi a base b n ds tm h i told s

theorem SliceAt.mid {h h' : H} {lo hi : Nat} (hm : Mid h h' lo hi) {v : AV} {n : Nat} {cs : List AV} (hc : SliceAt h v n cs) (hs : ∀ b, blkOf v = some b → b < lo) : SliceAt h' v n cs := by
  cases hc with
  | none => exact .none
  | zero => exact .zero
  | cell b o n cap cs hb hc => exact .cell b o n cap cs (by rw [hm.1]; exact hb) (hc.of_get (hm.2 b (.inl (hs b rfl))))

theorem SliceAt.from {h h' : H} {lo : Nat} (hm : From h h' lo) {v : AV} {n : Nat} {cs : List AV} (hc : SliceAt h v n cs) (hs : ∀ b, blkOf v = some b → b < lo) : SliceAt h' v n cs := by
  cases hc with
  | none => exact .none
  | zero => exact .zero
  | cell b o n cap cs hb hc => exact .cell b o n cap cs (Nat.lt_of_lt_of_le hb hm.1) (hc.of_get (hm.2 b (hs b rfl)))

theorem tellsGood (h : H) (e k : Nat) (vl : AV) (l : List Nat) (h0 : (0 < e ∧ k = 0) ∨ (e = 0 ∧ 0 < k)) (h1 : e ≤ 1000000) (h2 : k ≤ 1099511627776) (hl : ∀ n, n ∈ l → n < 18446744073709551616) (sl : SliceAt h vl l.length (u64s l)) :
    codeW P 3 89 none (bodyC Try.f3) [] (T.fill .e 0 [.int .i64 (.ofNat e), .int .u64 (.ofNat k), vl]) h (retK P Try.f3 PostTrue) := by
  have hv := SliceAt.blk sl
  have hlen := sl.len (P := P) u23
  refine codeW_root ?_
  repeat' (first
    | ((with_reducible refine st_seq ?_ ?_); (exact rfl))
    | ((with_reducible refine st_reg ?_ rfl rfl ?_); (exact rfl); (conv => arg 4; whnf); (conv => arg 3; whnf); simp only [B, F, Nat.reduceLT, Nat.reduceLeDiff, Nat.reduceEqDiff, Nat.reduceAdd, Nat.reduceMul, Nat.reduceSub, ↓reduceIte, eq_self])
    | ((with_reducible refine st_drawn ?_ rfl rfl ?_ ?_); (exact rfl); (kernel_rfl); (conv => arg 4; whnf); (conv => arg 3; whnf); simp only [B, F, Nat.reduceLT, Nat.reduceLeDiff, Nat.reduceEqDiff, Nat.reduceAdd, Nat.reduceMul, Nat.reduceSub, ↓reduceIte, eq_self])
    | ((with_reducible refine st_cond ?_ rfl ?_); (exact rfl); (conv => arg 1; arg 2; whnf); simp only [B, F, Nat.reduceLT, Nat.reduceLeDiff, Nat.reduceEqDiff, Nat.reduceAdd, Nat.reduceMul, Nat.reduceSub, ↓reduceIte, eq_self])
    | ((with_reducible refine ifB_split (fun hb => ?_) (fun hb => ?_)) <;> simp only [hb, B, F, Nat.reduceLT, Nat.reduceLeDiff, Nat.reduceEqDiff, Nat.reduceAdd, Nat.reduceMul, Nat.reduceSub, ↓reduceIte, eq_self])
    | ((with_reducible refine gW_split (fun hb => ?_) (fun hb => ?_)) <;> (try rw [Bool.not_true] at hb) <;> (try rw [Bool.not_false] at hb) <;> simp only [hb, B, F, Nat.reduceLT, Nat.reduceLeDiff, Nat.reduceEqDiff, Nat.reduceAdd, Nat.reduceMul, Nat.reduceSub, ↓reduceIte, eq_self])
    | ((with_reducible refine st_block ?_ rfl ?_); (exact rfl); (conv => arg 9; arg 1; whnf))
    | ((with_reducible refine st_skip ?_ ?_); (exact rfl); simp only [B, F, Nat.reduceLT, Nat.reduceLeDiff, Nat.reduceEqDiff, Nat.reduceAdd, Nat.reduceMul, Nat.reduceSub, ↓reduceIte, eq_self])
    | ((with_reducible refine st_exit ?_ rfl ?_); (exact rfl); (conv in exitId _ => whnf); simp only [B, F, Nat.reduceLT, Nat.reduceLeDiff, Nat.reduceEqDiff, Nat.reduceAdd, Nat.reduceMul, Nat.reduceSub, ↓reduceIte, eq_self])
    | ((with_reducible refine st_ret ?_ ?_); (exact rfl); try simp only [B, F, Nat.reduceLT, Nat.reduceLeDiff, Nat.reduceEqDiff, Nat.reduceAdd, Nat.reduceMul, Nat.reduceSub, ↓reduceIte, eq_self])
    | ((with_reducible refine retW_intro rfl ?_); (conv => arg 2; whnf); simp only [B, F, Nat.reduceLT, Nat.reduceLeDiff, Nat.reduceEqDiff, Nat.reduceAdd, Nat.reduceMul, Nat.reduceSub, ↓reduceIte, eq_self]))
  refine ((progNew h e k h0 h1 h2).call P).mono P ?_
  rintro v h1' ⟨a, rfl, pa, f1⟩
  simp only [B, F, Nat.reduceLT, Nat.reduceLeDiff, Nat.reduceEqDiff, Nat.reduceAdd, Nat.reduceMul, Nat.reduceSub, ↓reduceIte, eq_self]
  repeat' (first
    | ((with_reducible refine st_seq ?_ ?_); (exact rfl))
    | ((with_reducible refine st_reg ?_ rfl rfl ?_); (exact rfl); (conv => arg 4; whnf); (conv => arg 3; whnf); simp only [B, F, Nat.reduceLT, Nat.reduceLeDiff, Nat.reduceEqDiff, Nat.reduceAdd, Nat.reduceMul, Nat.reduceSub, ↓reduceIte, eq_self])
    | ((with_reducible refine st_drawn ?_ rfl rfl ?_ ?_); (exact rfl); (kernel_rfl); (conv => arg 4; whnf); (conv => arg 3; whnf); simp only [B, F, Nat.reduceLT, Nat.reduceLeDiff, Nat.reduceEqDiff, Nat.reduceAdd, Nat.reduceMul, Nat.reduceSub, ↓reduceIte, eq_self])
    | ((with_reducible refine st_cond ?_ rfl ?_); (exact rfl); (conv => arg 1; arg 2; whnf); simp only [B, F, Nat.reduceLT, Nat.reduceLeDiff, Nat.reduceEqDiff, Nat.reduceAdd, Nat.reduceMul, Nat.reduceSub, ↓reduceIte, eq_self])
    | ((with_reducible refine ifB_split (fun hb => ?_) (fun hb => ?_)) <;> simp only [hb, B, F, Nat.reduceLT, Nat.reduceLeDiff, Nat.reduceEqDiff, Nat.reduceAdd, Nat.reduceMul, Nat.reduceSub, ↓reduceIte, eq_self])
    | ((with_reducible refine gW_split (fun hb => ?_) (fun hb => ?_)) <;> (try rw [Bool.not_true] at hb) <;> (try rw [Bool.not_false] at hb) <;> simp only [hb, B, F, Nat.reduceLT, Nat.reduceLeDiff, Nat.reduceEqDiff, Nat.reduceAdd, Nat.reduceMul, Nat.reduceSub, ↓reduceIte, eq_self])
    | ((with_reducible refine st_block ?_ rfl ?_); (exact rfl); (conv => arg 9; arg 1; whnf))
    | ((with_reducible refine st_skip ?_ ?_); (exact rfl); simp only [B, F, Nat.reduceLT, Nat.reduceLeDiff, Nat.reduceEqDiff, Nat.reduceAdd, Nat.reduceMul, Nat.reduceSub, ↓reduceIte, eq_self])
    | ((with_reducible refine st_exit ?_ rfl ?_); (exact rfl); (conv in exitId _ => whnf); simp only [B, F, Nat.reduceLT, Nat.reduceLeDiff, Nat.reduceEqDiff, Nat.reduceAdd, Nat.reduceMul, Nat.reduceSub, ↓reduceIte, eq_self])
    | ((with_reducible refine st_ret ?_ ?_); (exact rfl); try simp only [B, F, Nat.reduceLT, Nat.reduceLeDiff, Nat.reduceEqDiff, Nat.reduceAdd, Nat.reduceMul, Nat.reduceSub, ↓reduceIte, eq_self])
    | ((with_reducible refine retW_intro rfl ?_); (conv => arg 2; whnf); simp only [B, F, Nat.reduceLT, Nat.reduceLeDiff, Nat.reduceEqDiff, Nat.reduceAdd, Nat.reduceMul, Nat.reduceSub, ↓reduceIte, eq_self]))
  refine ((refNew _ e k h0 h1 h2).call P).mono P ?_
  rintro v h2' ⟨b, rfl, ra, f2⟩
  have f2' : From h1' h2' h1'.nx := ⟨f2.1, fun c hc => f2.2 c hc (by simp)⟩
  simp only [B, F, Nat.reduceLT, Nat.reduceLeDiff, Nat.reduceEqDiff, Nat.reduceAdd, Nat.reduceMul, Nat.reduceSub, ↓reduceIte, eq_self]
  repeat' (first
    | ((with_reducible refine st_seq ?_ ?_); (exact rfl))
    | ((with_reducible refine st_reg ?_ rfl rfl ?_); (exact rfl); (conv => arg 4; whnf); (conv => arg 3; whnf); simp only [B, F, Nat.reduceLT, Nat.reduceLeDiff, Nat.reduceEqDiff, Nat.reduceAdd, Nat.reduceMul, Nat.reduceSub, ↓reduceIte, eq_self])
    | ((with_reducible refine st_drawn ?_ rfl rfl ?_ ?_); (exact rfl); (kernel_rfl); (conv => arg 4; whnf); (conv => arg 3; whnf); simp only [B, F, Nat.reduceLT, Nat.reduceLeDiff, Nat.reduceEqDiff, Nat.reduceAdd, Nat.reduceMul, Nat.reduceSub, ↓reduceIte, eq_self])
    | ((with_reducible refine st_cond ?_ rfl ?_); (exact rfl); (conv => arg 1; arg 2; whnf); simp only [B, F, Nat.reduceLT, Nat.reduceLeDiff, Nat.reduceEqDiff, Nat.reduceAdd, Nat.reduceMul, Nat.reduceSub, ↓reduceIte, eq_self])
    | ((with_reducible refine ifB_split (fun hb => ?_) (fun hb => ?_)) <;> simp only [hb, B, F, Nat.reduceLT, Nat.reduceLeDiff, Nat.reduceEqDiff, Nat.reduceAdd, Nat.reduceMul, Nat.reduceSub, ↓reduceIte, eq_self])
    | ((with_reducible refine gW_split (fun hb => ?_) (fun hb => ?_)) <;> (try rw [Bool.not_true] at hb) <;> (try rw [Bool.not_false] at hb) <;> simp only [hb, B, F, Nat.reduceLT, Nat.reduceLeDiff, Nat.reduceEqDiff, Nat.reduceAdd, Nat.reduceMul, Nat.reduceSub, ↓reduceIte, eq_self])
    | ((with_reducible refine st_block ?_ rfl ?_); (exact rfl); (conv => arg 9; arg 1; whnf))
    | ((with_reducible refine st_skip ?_ ?_); (exact rfl); simp only [B, F, Nat.reduceLT, Nat.reduceLeDiff, Nat.reduceEqDiff, Nat.reduceAdd, Nat.reduceMul, Nat.reduceSub, ↓reduceIte, eq_self])
    | ((with_reducible refine st_exit ?_ rfl ?_); (exact rfl); (conv in exitId _ => whnf); simp only [B, F, Nat.reduceLT, Nat.reduceLeDiff, Nat.reduceEqDiff, Nat.reduceAdd, Nat.reduceMul, Nat.reduceSub, ↓reduceIte, eq_self])
    | ((with_reducible refine st_ret ?_ ?_); (exact rfl); try simp only [B, F, Nat.reduceLT, Nat.reduceLeDiff, Nat.reduceEqDiff, Nat.reduceAdd, Nat.reduceMul, Nat.reduceSub, ↓reduceIte, eq_self])
    | ((with_reducible refine retW_intro rfl ?_); (conv => arg 2; whnf); simp only [B, F, Nat.reduceLT, Nat.reduceLeDiff, Nat.reduceEqDiff, Nat.reduceAdd, Nat.reduceMul, Nat.reduceSub, ↓reduceIte, eq_self]))
  refine st_loop (TI vl l e k h.nx h1'.nx a h1'.nx b) l.length rfl ⟨0, 0, newAS e k, rfl, rfl, ⟨Nat.zero_le _, by omega⟩, by simp only [B, F, Nat.reduceLT, Nat.reduceLeDiff, Nat.reduceEqDiff, Nat.reduceAdd, Nat.reduceMul, Nat.reduceSub, ↓reduceIte, eq_self], by simp only [B, F, Nat.reduceLT, Nat.reduceLeDiff, Nat.reduceEqDiff, Nat.reduceAdd, Nat.reduceMul, Nat.reduceSub, ↓reduceIte, eq_self], by simp only [B, F, Nat.reduceLT, Nat.reduceLeDiff, Nat.reduceEqDiff, Nat.reduceAdd, Nat.reduceMul, Nat.reduceSub, ↓reduceIte, eq_self], by simp only [B, F, Nat.reduceLT, Nat.reduceLeDiff, Nat.reduceEqDiff, Nat.reduceAdd, Nat.reduceMul, Nat.reduceSub, ↓reduceIte, eq_self], pa.from f2', ra, sim_new e k h0, ?_⟩ (fun n ds tm h hI => ?_)
  · exact SliceAt.from f2' (SliceAt.from f1 sl hv) (fun c hc => Nat.lt_of_lt_of_le (hv c hc) f1.1)
  obtain ⟨i, told, s, rfl, rfl, ⟨i1, i2⟩, t2, t7, t9, t11, pa, ra, sim, sl⟩ := hI
  by_cases hi : i < l.length ∧ i < 100
  · have d1 : decide (i < l.length) = true := decide_eq_true hi.1
    have d2 : decide (i < 100) = true := decide_eq_true hi.2
    obtain ⟨bl, ol, cap, rfl, hbl, hcells⟩ := sl.place (by omega)
    have hcell := hcells i (by simp [u64s]; omega)
    obtain ⟨m, hm⟩ : ∃ m, l[i]? = some m := ⟨_, List.getElem?_eq_getElem hi.1⟩
    have hmb := hl m (List.mem_of_getElem? hm)
    rw [u64s, List.getElem?_map, hm] at hcell
    have hcell : cellAt h bl (ol + i) = some (.int .u64 (.ofNat m)) := hcell
    have lt2 : (i < l.length) = True := by simp [hi.1]
    repeat' (first
      | ((with_reducible refine st_seq ?_ ?_); (exact rfl))
      | ((with_reducible refine st_reg ?_ rfl rfl ?_); (exact rfl); (conv => arg 4; whnf); (conv => arg 3; whnf); simp only [B, F, Nat.reduceLT, Nat.reduceLeDiff, Nat.reduceEqDiff, Nat.reduceAdd, Nat.reduceMul, Nat.reduceSub, ↓reduceIte, eq_self, t2, t7, t9, t11, hlen, d1, d2, lt2, Nat.mul_one, hcell])
      | ((with_reducible refine st_drawn ?_ rfl rfl ?_ ?_); (exact rfl); (kernel_rfl); (conv => arg 4; whnf); (conv => arg 3; whnf); simp only [B, F, Nat.reduceLT, Nat.reduceLeDiff, Nat.reduceEqDiff, Nat.reduceAdd, Nat.reduceMul, Nat.reduceSub, ↓reduceIte, eq_self, t2, t7, t9, t11, hlen, d1, d2, lt2, Nat.mul_one, hcell])
      | ((with_reducible refine st_cond ?_ rfl ?_); (exact rfl); (conv => arg 1; arg 2; whnf); simp only [B, F, Nat.reduceLT, Nat.reduceLeDiff, Nat.reduceEqDiff, Nat.reduceAdd, Nat.reduceMul, Nat.reduceSub, ↓reduceIte, eq_self, t2, t7, t9, t11, hlen, d1, d2, lt2, Nat.mul_one, hcell])
      | ((with_reducible refine ifB_split (fun hb => ?_) (fun hb => ?_)) <;> simp only [hb, B, F, Nat.reduceLT, Nat.reduceLeDiff, Nat.reduceEqDiff, Nat.reduceAdd, Nat.reduceMul, Nat.reduceSub, ↓reduceIte, eq_self, t2, t7, t9, t11, hlen, d1, d2, lt2, Nat.mul_one, hcell])
      | ((with_reducible refine gW_split (fun hb => ?_) (fun hb => ?_)) <;> (try rw [Bool.not_true] at hb) <;> (try rw [Bool.not_false] at hb) <;> simp only [hb, B, F, Nat.reduceLT, Nat.reduceLeDiff, Nat.reduceEqDiff, Nat.reduceAdd, Nat.reduceMul, Nat.reduceSub, ↓reduceIte, eq_self, t2, t7, t9, t11, hlen, d1, d2, lt2, Nat.mul_one, hcell])
      | ((with_reducible refine st_block ?_ rfl ?_); (exact rfl); (conv => arg 9; arg 1; whnf))
      | ((with_reducible refine st_skip ?_ ?_); (exact rfl); simp only [B, F, Nat.reduceLT, Nat.reduceLeDiff, Nat.reduceEqDiff, Nat.reduceAdd, Nat.reduceMul, Nat.reduceSub, ↓reduceIte, eq_self, t2, t7, t9, t11, hlen, d1, d2, lt2, Nat.mul_one, hcell])
      | ((with_reducible refine st_exit ?_ rfl ?_); (exact rfl); (conv in exitId _ => whnf); simp only [B, F, Nat.reduceLT, Nat.reduceLeDiff, Nat.reduceEqDiff, Nat.reduceAdd, Nat.reduceMul, Nat.reduceSub, ↓reduceIte, eq_self, t2, t7, t9, t11, hlen, d1, d2, lt2, Nat.mul_one, hcell])
      | ((with_reducible refine st_ret ?_ ?_); (exact rfl); try simp only [B, F, Nat.reduceLT, Nat.reduceLeDiff, Nat.reduceEqDiff, Nat.reduceAdd, Nat.reduceMul, Nat.reduceSub, ↓reduceIte, eq_self, t2, t7, t9, t11, hlen, d1, d2, lt2, Nat.mul_one, hcell])
      | ((with_reducible refine retW_intro rfl ?_); (conv => arg 2; whnf); simp only [B, F, Nat.reduceLT, Nat.reduceLeDiff, Nat.reduceEqDiff, Nat.reduceAdd, Nat.reduceMul, Nat.reduceSub, ↓reduceIte, eq_self, t2, t7, t9, t11, hlen, d1, d2, lt2, Nat.mul_one, hcell]))
    refine ((progTick h _ _ a m s pa hmb).call P).mono P ?_
    rintro v h3 ⟨rfl, pa3, m3⟩
    rw [tickV_eq]
    have ra3 := ra.mid m3
    have e3 : h3.t.get bl = h.t.get bl := m3.2 bl (.inl (hv _ rfl))
    have hcell3 : cellAt h3 bl (ol + i) = some (.int .u64 (.ofNat m)) := by rw [cellAt_of_get e3]; exact hcell
    simp only [B, F, Nat.reduceLT, Nat.reduceLeDiff, Nat.reduceEqDiff, Nat.reduceAdd, Nat.reduceMul, Nat.reduceSub, ↓reduceIte, eq_self, t2, t7, t9, t11, hlen, d1, d2, lt2, Nat.mul_one, hcell3]
    repeat' (first
      | ((with_reducible refine st_seq ?_ ?_); (exact rfl))
      | ((with_reducible refine st_reg ?_ rfl rfl ?_); (exact rfl); (conv => arg 4; whnf); (conv => arg 3; whnf); simp only [B, F, Nat.reduceLT, Nat.reduceLeDiff, Nat.reduceEqDiff, Nat.reduceAdd, Nat.reduceMul, Nat.reduceSub, ↓reduceIte, eq_self, t2, t7, t9, t11, hlen, d1, d2, lt2, Nat.mul_one, hcell3])
      | ((with_reducible refine st_drawn ?_ rfl rfl ?_ ?_); (exact rfl); (kernel_rfl); (conv => arg 4; whnf); (conv => arg 3; whnf); simp only [B, F, Nat.reduceLT, Nat.reduceLeDiff, Nat.reduceEqDiff, Nat.reduceAdd, Nat.reduceMul, Nat.reduceSub, ↓reduceIte, eq_self, t2, t7, t9, t11, hlen, d1, d2, lt2, Nat.mul_one, hcell3])
      | ((with_reducible refine st_cond ?_ rfl ?_); (exact rfl); (conv => arg 1; arg 2; whnf); simp only [B, F, Nat.reduceLT, Nat.reduceLeDiff, Nat.reduceEqDiff, Nat.reduceAdd, Nat.reduceMul, Nat.reduceSub, ↓reduceIte, eq_self, t2, t7, t9, t11, hlen, d1, d2, lt2, Nat.mul_one, hcell3])
      | ((with_reducible refine ifB_split (fun hb => ?_) (fun hb => ?_)) <;> simp only [hb, B, F, Nat.reduceLT, Nat.reduceLeDiff, Nat.reduceEqDiff, Nat.reduceAdd, Nat.reduceMul, Nat.reduceSub, ↓reduceIte, eq_self, t2, t7, t9, t11, hlen, d1, d2, lt2, Nat.mul_one, hcell3])
      | ((with_reducible refine gW_split (fun hb => ?_) (fun hb => ?_)) <;> (try rw [Bool.not_true] at hb) <;> (try rw [Bool.not_false] at hb) <;> simp only [hb, B, F, Nat.reduceLT, Nat.reduceLeDiff, Nat.reduceEqDiff, Nat.reduceAdd, Nat.reduceMul, Nat.reduceSub, ↓reduceIte, eq_self, t2, t7, t9, t11, hlen, d1, d2, lt2, Nat.mul_one, hcell3])
      | ((with_reducible refine st_block ?_ rfl ?_); (exact rfl); (conv => arg 9; arg 1; whnf))
      | ((with_reducible refine st_skip ?_ ?_); (exact rfl); simp only [B, F, Nat.reduceLT, Nat.reduceLeDiff, Nat.reduceEqDiff, Nat.reduceAdd, Nat.reduceMul, Nat.reduceSub, ↓reduceIte, eq_self, t2, t7, t9, t11, hlen, d1, d2, lt2, Nat.mul_one, hcell3])
      | ((with_reducible refine st_exit ?_ rfl ?_); (exact rfl); (conv in exitId _ => whnf); simp only [B, F, Nat.reduceLT, Nat.reduceLeDiff, Nat.reduceEqDiff, Nat.reduceAdd, Nat.reduceMul, Nat.reduceSub, ↓reduceIte, eq_self, t2, t7, t9, t11, hlen, d1, d2, lt2, Nat.mul_one, hcell3])
      | ((with_reducible refine st_ret ?_ ?_); (exact rfl); try simp only [B, F, Nat.reduceLT, Nat.reduceLeDiff, Nat.reduceEqDiff, Nat.reduceAdd, Nat.reduceMul, Nat.reduceSub, ↓reduceIte, eq_self, t2, t7, t9, t11, hlen, d1, d2, lt2, Nat.mul_one, hcell3])
      | ((with_reducible refine retW_intro rfl ?_); (conv => arg 2; whnf); simp only [B, F, Nat.reduceLT, Nat.reduceLeDiff, Nat.reduceEqDiff, Nat.reduceAdd, Nat.reduceMul, Nat.reduceSub, ↓reduceIte, eq_self, t2, t7, t9, t11, hlen, d1, d2, lt2, Nat.mul_one, hcell3]))
    refine ((refTick h3 _ b e k told m (l.take i) ra3 h0 h1 hmb (by rw [List.length_take]; omega)).call P).mono P ?_
    rintro v h4 ⟨rfl, ra4, f4⟩
    rw [tickV_eq, sim_m sim, sim.told]
    have hnx : wrapF .i64 (Int.ofNat i + Int.ofNat 1) = Int.ofNat (i + 1) := i64_add (by omega)
    simp only [B, F, Nat.reduceLT, Nat.reduceLeDiff, Nat.reduceEqDiff, Nat.reduceAdd, Nat.reduceMul, Nat.reduceSub, ↓reduceIte, eq_self, t2, t7, t9, t11, hlen, d1, d2, lt2, Nat.mul_one, ne_nat, hnx]
    repeat' (first
      | ((with_reducible refine st_seq ?_ ?_); (exact rfl))
      | ((with_reducible refine st_reg ?_ rfl rfl ?_); (exact rfl); (conv => arg 4; whnf); (conv => arg 3; whnf); simp only [B, F, Nat.reduceLT, Nat.reduceLeDiff, Nat.reduceEqDiff, Nat.reduceAdd, Nat.reduceMul, Nat.reduceSub, ↓reduceIte, eq_self, t2, t7, t9, t11, hlen, d1, d2, lt2, Nat.mul_one, ne_nat, hnx])
      | ((with_reducible refine st_drawn ?_ rfl rfl ?_ ?_); (exact rfl); (kernel_rfl); (conv => arg 4; whnf); (conv => arg 3; whnf); simp only [B, F, Nat.reduceLT, Nat.reduceLeDiff, Nat.reduceEqDiff, Nat.reduceAdd, Nat.reduceMul, Nat.reduceSub, ↓reduceIte, eq_self, t2, t7, t9, t11, hlen, d1, d2, lt2, Nat.mul_one, ne_nat, hnx])
      | ((with_reducible refine st_cond ?_ rfl ?_); (exact rfl); (conv => arg 1; arg 2; whnf); simp only [B, F, Nat.reduceLT, Nat.reduceLeDiff, Nat.reduceEqDiff, Nat.reduceAdd, Nat.reduceMul, Nat.reduceSub, ↓reduceIte, eq_self, t2, t7, t9, t11, hlen, d1, d2, lt2, Nat.mul_one, ne_nat, hnx])
      | ((with_reducible refine ifB_split (fun hb => ?_) (fun hb => ?_)) <;> simp only [hb, B, F, Nat.reduceLT, Nat.reduceLeDiff, Nat.reduceEqDiff, Nat.reduceAdd, Nat.reduceMul, Nat.reduceSub, ↓reduceIte, eq_self, t2, t7, t9, t11, hlen, d1, d2, lt2, Nat.mul_one, ne_nat, hnx])
      | ((with_reducible refine gW_split (fun hb => ?_) (fun hb => ?_)) <;> (try rw [Bool.not_true] at hb) <;> (try rw [Bool.not_false] at hb) <;> simp only [hb, B, F, Nat.reduceLT, Nat.reduceLeDiff, Nat.reduceEqDiff, Nat.reduceAdd, Nat.reduceMul, Nat.reduceSub, ↓reduceIte, eq_self, t2, t7, t9, t11, hlen, d1, d2, lt2, Nat.mul_one, ne_nat, hnx])
      | ((with_reducible refine st_block ?_ rfl ?_); (exact rfl); (conv => arg 9; arg 1; whnf))
      | ((with_reducible refine st_skip ?_ ?_); (exact rfl); simp only [B, F, Nat.reduceLT, Nat.reduceLeDiff, Nat.reduceEqDiff, Nat.reduceAdd, Nat.reduceMul, Nat.reduceSub, ↓reduceIte, eq_self, t2, t7, t9, t11, hlen, d1, d2, lt2, Nat.mul_one, ne_nat, hnx])
      | ((with_reducible refine st_exit ?_ rfl ?_); (exact rfl); (conv in exitId _ => whnf); simp only [B, F, Nat.reduceLT, Nat.reduceLeDiff, Nat.reduceEqDiff, Nat.reduceAdd, Nat.reduceMul, Nat.reduceSub, ↓reduceIte, eq_self, t2, t7, t9, t11, hlen, d1, d2, lt2, Nat.mul_one, ne_nat, hnx])
      | ((with_reducible refine st_ret ?_ ?_); (exact rfl); try simp only [B, F, Nat.reduceLT, Nat.reduceLeDiff, Nat.reduceEqDiff, Nat.reduceAdd, Nat.reduceMul, Nat.reduceSub, ↓reduceIte, eq_self, t2, t7, t9, t11, hlen, d1, d2, lt2, Nat.mul_one, ne_nat, hnx])
      | ((with_reducible refine retW_intro rfl ?_); (conv => arg 2; whnf); simp only [B, F, Nat.reduceLT, Nat.reduceLeDiff, Nat.reduceEqDiff, Nat.reduceAdd, Nat.reduceMul, Nat.reduceSub, ↓reduceIte, eq_self, t2, t7, t9, t11, hlen, d1, d2, lt2, Nat.mul_one, ne_nat, hnx]))

    refine ⟨l.length - (i + 1), by omega, i + 1, newTold (refM e k (l.take i) m) told, s.next m, rfl, rfl, ⟨by omega, by omega⟩, by simp only [B, F, Nat.reduceLT, Nat.reduceLeDiff, Nat.reduceEqDiff, Nat.reduceAdd, Nat.reduceMul, Nat.reduceSub, ↓reduceIte, eq_self, t2], by simp only [B, F, Nat.reduceLT, Nat.reduceLeDiff, Nat.reduceEqDiff, Nat.reduceAdd, Nat.reduceMul, Nat.reduceSub, ↓reduceIte, eq_self, t7], by simp only [B, F, Nat.reduceLT, Nat.reduceLeDiff, Nat.reduceEqDiff, Nat.reduceAdd, Nat.reduceMul, Nat.reduceSub, ↓reduceIte, eq_self, t9], by simp only [B, F, Nat.reduceLT, Nat.reduceLeDiff, Nat.reduceEqDiff, Nat.reduceAdd, Nat.reduceMul, Nat.reduceSub, ↓reduceIte, eq_self], pa3.from f4, ?_, ?_, ?_⟩
    · rw [List.take_add_one, hm]; exact ra4
    · rw [List.take_add_one, hm]; exact sim_next sim
    · exact SliceAt.from f4 (SliceAt.mid m3 sl hv) (fun c hc => Nat.lt_of_lt_of_le (hv c hc) f1.1)
  · have hd : i < l.length → decide (i < 100) = false := fun q => decide_eq_false (fun q2 => hi ⟨q, q2⟩)
    by_cases q : i < l.length
    · have d1 : decide (i < l.length) = true := decide_eq_true q
      have d2 := hd q
      repeat' (first
        | ((with_reducible refine st_seq ?_ ?_); (exact rfl))
        | ((with_reducible refine st_reg ?_ rfl rfl ?_); (exact rfl); (conv => arg 4; whnf); (conv => arg 3; whnf); simp only [B, F, Nat.reduceLT, Nat.reduceLeDiff, Nat.reduceEqDiff, Nat.reduceAdd, Nat.reduceMul, Nat.reduceSub, ↓reduceIte, eq_self, t2, t7, t9, t11, hlen, d1, d2])
        | ((with_reducible refine st_drawn ?_ rfl rfl ?_ ?_); (exact rfl); (kernel_rfl); (conv => arg 4; whnf); (conv => arg 3; whnf); simp only [B, F, Nat.reduceLT, Nat.reduceLeDiff, Nat.reduceEqDiff, Nat.reduceAdd, Nat.reduceMul, Nat.reduceSub, ↓reduceIte, eq_self, t2, t7, t9, t11, hlen, d1, d2])
        | ((with_reducible refine st_cond ?_ rfl ?_); (exact rfl); (conv => arg 1; arg 2; whnf); simp only [B, F, Nat.reduceLT, Nat.reduceLeDiff, Nat.reduceEqDiff, Nat.reduceAdd, Nat.reduceMul, Nat.reduceSub, ↓reduceIte, eq_self, t2, t7, t9, t11, hlen, d1, d2])
        | ((with_reducible refine ifB_split (fun hb => ?_) (fun hb => ?_)) <;> simp only [hb, B, F, Nat.reduceLT, Nat.reduceLeDiff, Nat.reduceEqDiff, Nat.reduceAdd, Nat.reduceMul, Nat.reduceSub, ↓reduceIte, eq_self, t2, t7, t9, t11, hlen, d1, d2])
        | ((with_reducible refine gW_split (fun hb => ?_) (fun hb => ?_)) <;> (try rw [Bool.not_true] at hb) <;> (try rw [Bool.not_false] at hb) <;> simp only [hb, B, F, Nat.reduceLT, Nat.reduceLeDiff, Nat.reduceEqDiff, Nat.reduceAdd, Nat.reduceMul, Nat.reduceSub, ↓reduceIte, eq_self, t2, t7, t9, t11, hlen, d1, d2])
        | ((with_reducible refine st_block ?_ rfl ?_); (exact rfl); (conv => arg 9; arg 1; whnf))
        | ((with_reducible refine st_skip ?_ ?_); (exact rfl); simp only [B, F, Nat.reduceLT, Nat.reduceLeDiff, Nat.reduceEqDiff, Nat.reduceAdd, Nat.reduceMul, Nat.reduceSub, ↓reduceIte, eq_self, t2, t7, t9, t11, hlen, d1, d2])
        | ((with_reducible refine st_exit ?_ rfl ?_); (exact rfl); (conv in exitId _ => whnf); simp only [B, F, Nat.reduceLT, Nat.reduceLeDiff, Nat.reduceEqDiff, Nat.reduceAdd, Nat.reduceMul, Nat.reduceSub, ↓reduceIte, eq_self, t2, t7, t9, t11, hlen, d1, d2])
        | ((with_reducible refine st_ret ?_ ?_); (exact rfl); try simp only [B, F, Nat.reduceLT, Nat.reduceLeDiff, Nat.reduceEqDiff, Nat.reduceAdd, Nat.reduceMul, Nat.reduceSub, ↓reduceIte, eq_self, t2, t7, t9, t11, hlen, d1, d2])
        | ((with_reducible refine retW_intro rfl ?_); (conv => arg 2; whnf); simp only [B, F, Nat.reduceLT, Nat.reduceLeDiff, Nat.reduceEqDiff, Nat.reduceAdd, Nat.reduceMul, Nat.reduceSub, ↓reduceIte, eq_self, t2, t7, t9, t11, hlen, d1, d2]))
      refine worksC _ ?_
      simp only [B, F, Nat.reduceLT, Nat.reduceLeDiff, Nat.reduceEqDiff, Nat.reduceAdd, Nat.reduceMul, Nat.reduceSub, ↓reduceIte, eq_self]
      repeat' (first
        | ((with_reducible refine st_seq ?_ ?_); (exact rfl))
        | ((with_reducible refine st_reg ?_ rfl rfl ?_); (exact rfl); (conv => arg 4; whnf); (conv => arg 3; whnf); simp only [B, F, Nat.reduceLT, Nat.reduceLeDiff, Nat.reduceEqDiff, Nat.reduceAdd, Nat.reduceMul, Nat.reduceSub, ↓reduceIte, eq_self])
        | ((with_reducible refine st_drawn ?_ rfl rfl ?_ ?_); (exact rfl); (kernel_rfl); (conv => arg 4; whnf); (conv => arg 3; whnf); simp only [B, F, Nat.reduceLT, Nat.reduceLeDiff, Nat.reduceEqDiff, Nat.reduceAdd, Nat.reduceMul, Nat.reduceSub, ↓reduceIte, eq_self])
        | ((with_reducible refine st_cond ?_ rfl ?_); (exact rfl); (conv => arg 1; arg 2; whnf); simp only [B, F, Nat.reduceLT, Nat.reduceLeDiff, Nat.reduceEqDiff, Nat.reduceAdd, Nat.reduceMul, Nat.reduceSub, ↓reduceIte, eq_self])
        | ((with_reducible refine ifB_split (fun hb => ?_) (fun hb => ?_)) <;> simp only [hb, B, F, Nat.reduceLT, Nat.reduceLeDiff, Nat.reduceEqDiff, Nat.reduceAdd, Nat.reduceMul, Nat.reduceSub, ↓reduceIte, eq_self])
        | ((with_reducible refine gW_split (fun hb => ?_) (fun hb => ?_)) <;> (try rw [Bool.not_true] at hb) <;> (try rw [Bool.not_false] at hb) <;> simp only [hb, B, F, Nat.reduceLT, Nat.reduceLeDiff, Nat.reduceEqDiff, Nat.reduceAdd, Nat.reduceMul, Nat.reduceSub, ↓reduceIte, eq_self])
        | ((with_reducible refine st_block ?_ rfl ?_); (exact rfl); (conv => arg 9; arg 1; whnf))
        | ((with_reducible refine st_skip ?_ ?_); (exact rfl); simp only [B, F, Nat.reduceLT, Nat.reduceLeDiff, Nat.reduceEqDiff, Nat.reduceAdd, Nat.reduceMul, Nat.reduceSub, ↓reduceIte, eq_self])
        | ((with_reducible refine st_exit ?_ rfl ?_); (exact rfl); (conv in exitId _ => whnf); simp only [B, F, Nat.reduceLT, Nat.reduceLeDiff, Nat.reduceEqDiff, Nat.reduceAdd, Nat.reduceMul, Nat.reduceSub, ↓reduceIte, eq_self])
        | ((with_reducible refine st_ret ?_ ?_); (exact rfl); try simp only [B, F, Nat.reduceLT, Nat.reduceLeDiff, Nat.reduceEqDiff, Nat.reduceAdd, Nat.reduceMul, Nat.reduceSub, ↓reduceIte, eq_self])
        | ((with_reducible refine retW_intro rfl ?_); (conv => arg 2; whnf); simp only [B, F, Nat.reduceLT, Nat.reduceLeDiff, Nat.reduceEqDiff, Nat.reduceAdd, Nat.reduceMul, Nat.reduceSub, ↓reduceIte, eq_self]))
      rfl
    · have d1 : decide (i < l.length) = false := decide_eq_false q
      repeat' (first
        | ((with_reducible refine st_seq ?_ ?_); (exact rfl))
        | ((with_reducible refine st_reg ?_ rfl rfl ?_); (exact rfl); (conv => arg 4; whnf); (conv => arg 3; whnf); simp only [B, F, Nat.reduceLT, Nat.reduceLeDiff, Nat.reduceEqDiff, Nat.reduceAdd, Nat.reduceMul, Nat.reduceSub, ↓reduceIte, eq_self, t2, t7, t9, t11, hlen, d1])
        | ((with_reducible refine st_drawn ?_ rfl rfl ?_ ?_); (exact rfl); (kernel_rfl); (conv => arg 4; whnf); (conv => arg 3; whnf); simp only [B, F, Nat.reduceLT, Nat.reduceLeDiff, Nat.reduceEqDiff, Nat.reduceAdd, Nat.reduceMul, Nat.reduceSub, ↓reduceIte, eq_self, t2, t7, t9, t11, hlen, d1])
        | ((with_reducible refine st_cond ?_ rfl ?_); (exact rfl); (conv => arg 1; arg 2; whnf); simp only [B, F, Nat.reduceLT, Nat.reduceLeDiff, Nat.reduceEqDiff, Nat.reduceAdd, Nat.reduceMul, Nat.reduceSub, ↓reduceIte, eq_self, t2, t7, t9, t11, hlen, d1])
        | ((with_reducible refine ifB_split (fun hb => ?_) (fun hb => ?_)) <;> simp only [hb, B, F, Nat.reduceLT, Nat.reduceLeDiff, Nat.reduceEqDiff, Nat.reduceAdd, Nat.reduceMul, Nat.reduceSub, ↓reduceIte, eq_self, t2, t7, t9, t11, hlen, d1])
        | ((with_reducible refine gW_split (fun hb => ?_) (fun hb => ?_)) <;> (try rw [Bool.not_true] at hb) <;> (try rw [Bool.not_false] at hb) <;> simp only [hb, B, F, Nat.reduceLT, Nat.reduceLeDiff, Nat.reduceEqDiff, Nat.reduceAdd, Nat.reduceMul, Nat.reduceSub, ↓reduceIte, eq_self, t2, t7, t9, t11, hlen, d1])
        | ((with_reducible refine st_block ?_ rfl ?_); (exact rfl); (conv => arg 9; arg 1; whnf))
        | ((with_reducible refine st_skip ?_ ?_); (exact rfl); simp only [B, F, Nat.reduceLT, Nat.reduceLeDiff, Nat.reduceEqDiff, Nat.reduceAdd, Nat.reduceMul, Nat.reduceSub, ↓reduceIte, eq_self, t2, t7, t9, t11, hlen, d1])
        | ((with_reducible refine st_exit ?_ rfl ?_); (exact rfl); (conv in exitId _ => whnf); simp only [B, F, Nat.reduceLT, Nat.reduceLeDiff, Nat.reduceEqDiff, Nat.reduceAdd, Nat.reduceMul, Nat.reduceSub, ↓reduceIte, eq_self, t2, t7, t9, t11, hlen, d1])
        | ((with_reducible refine st_ret ?_ ?_); (exact rfl); try simp only [B, F, Nat.reduceLT, Nat.reduceLeDiff, Nat.reduceEqDiff, Nat.reduceAdd, Nat.reduceMul, Nat.reduceSub, ↓reduceIte, eq_self, t2, t7, t9, t11, hlen, d1])
        | ((with_reducible refine retW_intro rfl ?_); (conv => arg 2; whnf); simp only [B, F, Nat.reduceLT, Nat.reduceLeDiff, Nat.reduceEqDiff, Nat.reduceAdd, Nat.reduceMul, Nat.reduceSub, ↓reduceIte, eq_self, t2, t7, t9, t11, hlen, d1]))
      refine worksC _ ?_
      simp only [B, F, Nat.reduceLT, Nat.reduceLeDiff, Nat.reduceEqDiff, Nat.reduceAdd, Nat.reduceMul, Nat.reduceSub, ↓reduceIte, eq_self]
      repeat' (first
        | ((with_reducible refine st_seq ?_ ?_); (exact rfl))
        | ((with_reducible refine st_reg ?_ rfl rfl ?_); (exact rfl); (conv => arg 4; whnf); (conv => arg 3; whnf); simp only [B, F, Nat.reduceLT, Nat.reduceLeDiff, Nat.reduceEqDiff, Nat.reduceAdd, Nat.reduceMul, Nat.reduceSub, ↓reduceIte, eq_self])
        | ((with_reducible refine st_drawn ?_ rfl rfl ?_ ?_); (exact rfl); (kernel_rfl); (conv => arg 4; whnf); (conv => arg 3; whnf); simp only [B, F, Nat.reduceLT, Nat.reduceLeDiff, Nat.reduceEqDiff, Nat.reduceAdd, Nat.reduceMul, Nat.reduceSub, ↓reduceIte, eq_self])
        | ((with_reducible refine st_cond ?_ rfl ?_); (exact rfl); (conv => arg 1; arg 2; whnf); simp only [B, F, Nat.reduceLT, Nat.reduceLeDiff, Nat.reduceEqDiff, Nat.reduceAdd, Nat.reduceMul, Nat.reduceSub, ↓reduceIte, eq_self])
        | ((with_reducible refine ifB_split (fun hb => ?_) (fun hb => ?_)) <;> simp only [hb, B, F, Nat.reduceLT, Nat.reduceLeDiff, Nat.reduceEqDiff, Nat.reduceAdd, Nat.reduceMul, Nat.reduceSub, ↓reduceIte, eq_self])
        | ((with_reducible refine gW_split (fun hb => ?_) (fun hb => ?_)) <;> (try rw [Bool.not_true] at hb) <;> (try rw [Bool.not_false] at hb) <;> simp only [hb, B, F, Nat.reduceLT, Nat.reduceLeDiff, Nat.reduceEqDiff, Nat.reduceAdd, Nat.reduceMul, Nat.reduceSub, ↓reduceIte, eq_self])
        | ((with_reducible refine st_block ?_ rfl ?_); (exact rfl); (conv => arg 9; arg 1; whnf))
        | ((with_reducible refine st_skip ?_ ?_); (exact rfl); simp only [B, F, Nat.reduceLT, Nat.reduceLeDiff, Nat.reduceEqDiff, Nat.reduceAdd, Nat.reduceMul, Nat.reduceSub, ↓reduceIte, eq_self])
        | ((with_reducible refine st_exit ?_ rfl ?_); (exact rfl); (conv in exitId _ => whnf); simp only [B, F, Nat.reduceLT, Nat.reduceLeDiff, Nat.reduceEqDiff, Nat.reduceAdd, Nat.reduceMul, Nat.reduceSub, ↓reduceIte, eq_self])
        | ((with_reducible refine st_ret ?_ ?_); (exact rfl); try simp only [B, F, Nat.reduceLT, Nat.reduceLeDiff, Nat.reduceEqDiff, Nat.reduceAdd, Nat.reduceMul, Nat.reduceSub, ↓reduceIte, eq_self])
        | ((with_reducible refine retW_intro rfl ?_); (conv => arg 2; whnf); simp only [B, F, Nat.reduceLT, Nat.reduceLeDiff, Nat.reduceEqDiff, Nat.reduceAdd, Nat.reduceMul, Nat.reduceSub, ↓reduceIte, eq_self]))
      rfl
end
end Go.Proofs.Ytiegeehjbmogpaa.W


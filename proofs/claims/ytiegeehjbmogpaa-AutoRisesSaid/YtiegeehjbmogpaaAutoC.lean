/-
  auto: what the document's functions do.
-/
import Derived.Test.YtiegeehjbmogpaaAutoB
set_option linter.unusedSimpArgs false
set_option linter.unusedVariables false
namespace Go.Proofs.Ytiegeehjbmogpaa.W
open Go Go.AX
noncomputable section


def u64s (l : List Nat) : List AV := l.map fun n => .int .u64 (.ofNat n)
theorem u64s_snoc (l : List Nat) (n : Nat) : u64s l ++ [.int .u64 (.ofNat n)] = u64s (l ++ [n]) := by simp [u64s]

/-- The document's one. -/
structure RefR (h : H) (base b every keep : Nat) (seen : List Nat) (told : Nat) : Prop where
  lt : base ≤ b ∧ b < h.nx
  wr : wrAt h b = true
  c0 : cellAt h b 0 = some (.int .i64 (.ofNat every))
  c1 : cellAt h b 1 = some (.int .u64 (.ofNat keep))
  c2 : ∃ v, cellAt h b 2 = some v ∧ Grows 1 base h v seen.length (u64s seen) ∧ blkOf v ≠ some b
  c3 : cellAt h b 3 = some (.int .u64 (.ofNat told))

theorem refBad (h : H) (e : Int) (k : Nat) (hbad : badArg e k = true) : PushC P (.enter 7 [.int .i64 e, .int .u64 (.ofNat k)] h) (PostBad h) := by
  unfold badArg at hbad
  refine pushC_of_codeW (fn := Try.f7) (c := bodyC Try.f7) Try.func7 rfl ?_
  show codeW P 7 27 none _ _ _ _ _
  refine codeW_root ?_
  repeat' (first
    | ((with_reducible refine st_seq ?_ ?_); (exact rfl))
    | ((with_reducible refine st_reg ?_ rfl rfl ?_); (exact rfl); (conv => arg 4; whnf); (conv => arg 3; whnf); simp only [B, F, Nat.reduceLT, Nat.reduceLeDiff, Nat.reduceEqDiff, Nat.reduceAdd, Nat.reduceMul, Nat.reduceSub, ↓reduceIte, eq_self])
    | ((with_reducible refine st_drawn ?_ rfl rfl ?_ ?_); (exact rfl); (kernel_rfl); (conv => arg 4; whnf); (conv => arg 3; whnf); simp only [B, F, Nat.reduceLT, Nat.reduceLeDiff, Nat.reduceEqDiff, Nat.reduceAdd, Nat.reduceMul, Nat.reduceSub, ↓reduceIte, eq_self])
    | ((with_reducible refine st_cond ?_ rfl ?_); (exact rfl); (conv => arg 1; arg 2; whnf); simp only [B, F, Nat.reduceLT, Nat.reduceLeDiff, Nat.reduceEqDiff, Nat.reduceAdd, Nat.reduceMul, Nat.reduceSub, ↓reduceIte, eq_self])
    | ((with_reducible refine ifB_split (fun hb => ?_) (fun hb => ?_)) <;> simp only [hb, B, F, Nat.reduceLT, Nat.reduceLeDiff, Nat.reduceEqDiff, Nat.reduceAdd, Nat.reduceMul, Nat.reduceSub, ↓reduceIte, eq_self])
    | ((with_reducible refine gW_split (fun hb => ?_) (fun hb => ?_)) <;> (try rw [Bool.not_true] at hb) <;> (try rw [Bool.not_false] at hb) <;> simp only [hb, B, F, Nat.reduceLT, Nat.reduceLeDiff, Nat.reduceEqDiff, Nat.reduceAdd, Nat.reduceMul, Nat.reduceSub, ↓reduceIte, eq_self])
    | ((with_reducible refine st_block ?_ rfl ?_); (exact rfl); (conv => arg 9; arg 1; whnf))
    | ((with_reducible refine st_skip ?_ ?_); (exact rfl); simp only [B, F, Nat.reduceLT, Nat.reduceLeDiff, Nat.reduceEqDiff, Nat.reduceAdd, Nat.reduceMul, Nat.reduceSub, ↓reduceIte, eq_self])
    | ((with_reducible refine st_exit ?_ rfl ?_); (exact rfl); (conv in exitId _ => whnf); simp only [B, F, Nat.reduceLT, Nat.reduceLeDiff, Nat.reduceEqDiff, Nat.reduceAdd, Nat.reduceMul, Nat.reduceSub, ↓reduceIte, eq_self])
    | ((with_reducible refine st_ret ?_ ?_); (exact rfl); try simp only [B, F, Nat.reduceLT, Nat.reduceLeDiff, Nat.reduceEqDiff, Nat.reduceAdd, Nat.reduceMul, Nat.reduceSub, ↓reduceIte, eq_self])
    | ((with_reducible refine retW_intro rfl ?_); (conv => arg 2; whnf); simp only [B, F, Nat.reduceLT, Nat.reduceLeDiff, Nat.reduceEqDiff, Nat.reduceAdd, Nat.reduceMul, Nat.reduceSub, ↓reduceIte, eq_self]))
  all_goals first | exact ⟨rfl, rfl⟩ | (exfalso; simp_all; done) | (exfalso; simp_all; omega)

def PostRef (h : H) (e k : Nat) (v : AV) (h' : H) : Prop := ∃ b, v = .tuple [.ptr b 0, .int .i64 (.ofNat 0)] ∧ RefR h' h.nx b e k [] 0 ∧ Only h h' []

theorem refNew (h : H) (e k : Nat) (h0 : (0 < e ∧ k = 0) ∨ (e = 0 ∧ 0 < k)) (h1 : e ≤ 1000000) (h2 : k ≤ 1099511627776) : PushC P (.enter 7 [.int .i64 (.ofNat e), .int .u64 (.ofNat k)] h) (PostRef h e k) := by
  have d1 : decide (1000000 < e) = false := decide_eq_false (by omega)
  have d2 : decide (1099511627776 < k) = false := decide_eq_false (by omega)
  have d3 : (decide (0 < e) == decide (0 < k)) = false := by
    rcases h0 with ⟨a, rfl⟩ | ⟨rfl, a⟩ <;> simp [a]
  refine pushC_of_codeW (fn := Try.f7) (c := bodyC Try.f7) Try.func7 rfl ?_
  show codeW P 7 27 none _ _ _ _ _
  refine codeW_root ?_
  repeat' (first
    | ((with_reducible refine st_seq ?_ ?_); (exact rfl))
    | ((with_reducible refine st_reg ?_ rfl rfl ?_); (exact rfl); (conv => arg 4; whnf); (conv => arg 3; whnf); simp only [B, F, Nat.reduceLT, Nat.reduceLeDiff, Nat.reduceEqDiff, Nat.reduceAdd, Nat.reduceMul, Nat.reduceSub, ↓reduceIte, eq_self, d1, d2, d3])
    | ((with_reducible refine st_drawn ?_ rfl rfl ?_ ?_); (exact rfl); (kernel_rfl); (conv => arg 4; whnf); (conv => arg 3; whnf); simp only [B, F, Nat.reduceLT, Nat.reduceLeDiff, Nat.reduceEqDiff, Nat.reduceAdd, Nat.reduceMul, Nat.reduceSub, ↓reduceIte, eq_self, d1, d2, d3])
    | ((with_reducible refine st_cond ?_ rfl ?_); (exact rfl); (conv => arg 1; arg 2; whnf); simp only [B, F, Nat.reduceLT, Nat.reduceLeDiff, Nat.reduceEqDiff, Nat.reduceAdd, Nat.reduceMul, Nat.reduceSub, ↓reduceIte, eq_self, d1, d2, d3])
    | ((with_reducible refine ifB_split (fun hb => ?_) (fun hb => ?_)) <;> simp only [hb, B, F, Nat.reduceLT, Nat.reduceLeDiff, Nat.reduceEqDiff, Nat.reduceAdd, Nat.reduceMul, Nat.reduceSub, ↓reduceIte, eq_self, d1, d2, d3])
    | ((with_reducible refine gW_split (fun hb => ?_) (fun hb => ?_)) <;> (try rw [Bool.not_true] at hb) <;> (try rw [Bool.not_false] at hb) <;> simp only [hb, B, F, Nat.reduceLT, Nat.reduceLeDiff, Nat.reduceEqDiff, Nat.reduceAdd, Nat.reduceMul, Nat.reduceSub, ↓reduceIte, eq_self, d1, d2, d3])
    | ((with_reducible refine st_block ?_ rfl ?_); (exact rfl); (conv => arg 9; arg 1; whnf))
    | ((with_reducible refine st_skip ?_ ?_); (exact rfl); simp only [B, F, Nat.reduceLT, Nat.reduceLeDiff, Nat.reduceEqDiff, Nat.reduceAdd, Nat.reduceMul, Nat.reduceSub, ↓reduceIte, eq_self, d1, d2, d3])
    | ((with_reducible refine st_exit ?_ rfl ?_); (exact rfl); (conv in exitId _ => whnf); simp only [B, F, Nat.reduceLT, Nat.reduceLeDiff, Nat.reduceEqDiff, Nat.reduceAdd, Nat.reduceMul, Nat.reduceSub, ↓reduceIte, eq_self, d1, d2, d3])
    | ((with_reducible refine st_ret ?_ ?_); (exact rfl); try simp only [B, F, Nat.reduceLT, Nat.reduceLeDiff, Nat.reduceEqDiff, Nat.reduceAdd, Nat.reduceMul, Nat.reduceSub, ↓reduceIte, eq_self, d1, d2, d3])
    | ((with_reducible refine retW_intro rfl ?_); (conv => arg 2; whnf); simp only [B, F, Nat.reduceLT, Nat.reduceLeDiff, Nat.reduceEqDiff, Nat.reduceAdd, Nat.reduceMul, Nat.reduceSub, ↓reduceIte, eq_self, d1, d2, d3]))
  refine ⟨h.nx, rfl, ⟨⟨Nat.le_refl _, by rw [nx_new]; exact Nat.lt_succ_self _⟩, ?_, ?_, ?_, ⟨.nilslice, ?_, .none, by simp [blkOf]⟩, ?_⟩, (Only.refl _ _).new _ _⟩
  all_goals simp only [B, F, Nat.reduceLT, Nat.reduceLeDiff, Nat.reduceEqDiff, Nat.reduceAdd, Nat.reduceMul, Nat.reduceSub, ↓reduceIte, eq_self]

/-- What should be, as the document says it. -/
def refM (every keep : Nat) (seen : List Nat) (rev : Nat) : Nat :=
  if 0 < every then (if (seen.length + 1) % every = 0 ∧ every < seen.length + 1 then ((seen ++ [rev])[seen.length + 1 - 1 - every]?).getD 0 else 0)
  else if keep < rev then rev - keep else 0

def PostRefT (h : H) (base b every keep : Nat) (seen : List Nat) (told rev : Nat) (v : AV) (h' : H) : Prop :=
  ∃ h1, PostTick h1 b 3 told (refM every keep seen rev) v h' ∧ RefR h1 base b every keep (seen ++ [rev]) told ∧ h.nx ≤ h1.nx ∧ (∀ c, c < base → h1.t.get c = h.t.get c)

theorem refRel {h h' h2 : H} {base b e keep told rev : Nat} {seen : List Nat} {v v' : AV} (hb : base ≤ b ∧ b < h.nx) (wr : wrAt h b = true) (c0 : cellAt h b 0 = some (.int .i64 (.ofNat e))) (c1 : cellAt h b 1 = some (.int .u64 (.ofNat keep)))
    (c3 : cellAt h b 3 = some (.int .u64 (.ofNat told))) (c2 : cellAt h b 2 = some v) (hn2 : h2.nx = h.nx + 1) (hget2 : ∀ c, c < h.nx → h2.t.get c = h.t.get c) (hv : blkOf v ≠ some b) (hvb : ∀ c, blkOf v = some c → base ≤ c)
    (hg' : Grows 1 base h' v' (seen.length + 1) (u64s (seen ++ [rev]))) (hnx : h'.nx = h2.nx + 1) (hold : ∀ c, c < h2.nx → blkOf v ≠ some c → h'.t.get c = h2.t.get c) (hblk : blkOf v' = some h2.nx) :
    RefR (h'.sts b 2 [v']) base b e keep (seen ++ [rev]) told ∧ h.nx ≤ (h'.sts b 2 [v']).nx ∧ (∀ c, c < base → (h'.sts b 2 [v']).t.get c = h.t.get c) := by
  have eb : h'.t.get b = h.t.get b := by rw [hold b (by omega) hv, hget2 _ hb.2]
  have ec := cellAt_of_get eb
  have ew : wrAt h' b = true := by rw [wrAt_of_get eb]; exact wr
  refine ⟨⟨⟨hb.1, by rw [nx_sts]; omega⟩, by rw [wrAt_sts]; exact ew, ?_, ?_, ⟨v', ?_, ?_, ?_⟩, ?_⟩, by rw [nx_sts]; omega, fun c hc => ?_⟩
  · simp only [B, F, Nat.reduceLT, Nat.reduceLeDiff, Nat.reduceEqDiff, Nat.reduceAdd, Nat.reduceMul, Nat.reduceSub, ↓reduceIte, eq_self, cellAt_sts ew, ec, c0]
  · simp only [B, F, Nat.reduceLT, Nat.reduceLeDiff, Nat.reduceEqDiff, Nat.reduceAdd, Nat.reduceMul, Nat.reduceSub, ↓reduceIte, eq_self, cellAt_sts ew, ec, c1]
  · simp only [B, F, Nat.reduceLT, Nat.reduceLeDiff, Nat.reduceEqDiff, Nat.reduceAdd, Nat.reduceMul, Nat.reduceSub, ↓reduceIte, eq_self, cellAt_sts ew, ec, c1]
  · rw [show (seen ++ [rev]).length = seen.length + 1 by simp]
    refine hg'.of_get (by rw [nx_sts]; exact Nat.le_refl _) (fun c hc => get_sts _ _ _ _ ?_)
    rw [hblk] at hc; cases hc; omega
  · rw [hblk]; intro q; cases q; omega
  · simp only [B, F, Nat.reduceLT, Nat.reduceLeDiff, Nat.reduceEqDiff, Nat.reduceAdd, Nat.reduceMul, Nat.reduceSub, ↓reduceIte, eq_self, cellAt_sts ew, ec, c3]
  · rw [get_sts _ _ _ _ (by omega), hold c (by omega) (fun q => by have := hvb _ q; omega), hget2 _ (by omega)]

theorem refTickK (h : H) (base b keep told rev : Nat) (seen : List Nat) (hr : RefR h base b 0 keep seen told) (h0 : 0 < keep) (h1 : rev < 18446744073709551616) (hl : seen.length < 100) :
    PushC P (.enter 10 [.ptr b 0, .int .u64 (.ofNat rev)] h) (PostRefT h base b 0 keep seen told rev) := by
  obtain ⟨lt, wr, c0, c1, ⟨v, c2, hg, hv⟩, c3⟩ := hr
  have nb : (b = h.nx) = False := by simp; omega
  have d0 : decide (0 < keep) = true := decide_eq_true h0
  refine pushC_of_codeW (fn := Try.f10) (c := bodyC Try.f10) Try.func10 rfl ?_
  show codeW P 10 92 none _ _ _ _ _
  refine codeW_root ?_
  repeat' (first
    | ((with_reducible refine st_seq ?_ ?_); (exact rfl))
    | ((with_reducible refine st_reg ?_ rfl rfl ?_); (exact rfl); (conv => arg 4; whnf); (conv => arg 3; whnf); simp only [B, F, Nat.reduceLT, Nat.reduceLeDiff, Nat.reduceEqDiff, Nat.reduceAdd, Nat.reduceMul, Nat.reduceSub, ↓reduceIte, eq_self, c0, c1, c2, c3, nb])
    | ((with_reducible refine st_drawn ?_ rfl rfl ?_ ?_); (exact rfl); (kernel_rfl); (conv => arg 4; whnf); (conv => arg 3; whnf); simp only [B, F, Nat.reduceLT, Nat.reduceLeDiff, Nat.reduceEqDiff, Nat.reduceAdd, Nat.reduceMul, Nat.reduceSub, ↓reduceIte, eq_self, c0, c1, c2, c3, nb])
    | ((with_reducible refine st_cond ?_ rfl ?_); (exact rfl); (conv => arg 1; arg 2; whnf); simp only [B, F, Nat.reduceLT, Nat.reduceLeDiff, Nat.reduceEqDiff, Nat.reduceAdd, Nat.reduceMul, Nat.reduceSub, ↓reduceIte, eq_self, c0, c1, c2, c3, nb])
    | ((with_reducible refine ifB_split (fun hb => ?_) (fun hb => ?_)) <;> simp only [hb, B, F, Nat.reduceLT, Nat.reduceLeDiff, Nat.reduceEqDiff, Nat.reduceAdd, Nat.reduceMul, Nat.reduceSub, ↓reduceIte, eq_self, c0, c1, c2, c3, nb])
    | ((with_reducible refine gW_split (fun hb => ?_) (fun hb => ?_)) <;> (try rw [Bool.not_true] at hb) <;> (try rw [Bool.not_false] at hb) <;> simp only [hb, B, F, Nat.reduceLT, Nat.reduceLeDiff, Nat.reduceEqDiff, Nat.reduceAdd, Nat.reduceMul, Nat.reduceSub, ↓reduceIte, eq_self, c0, c1, c2, c3, nb])
    | ((with_reducible refine st_block ?_ rfl ?_); (exact rfl); (conv => arg 9; arg 1; whnf))
    | ((with_reducible refine st_skip ?_ ?_); (exact rfl); simp only [B, F, Nat.reduceLT, Nat.reduceLeDiff, Nat.reduceEqDiff, Nat.reduceAdd, Nat.reduceMul, Nat.reduceSub, ↓reduceIte, eq_self, c0, c1, c2, c3, nb])
    | ((with_reducible refine st_exit ?_ rfl ?_); (exact rfl); (conv in exitId _ => whnf); simp only [B, F, Nat.reduceLT, Nat.reduceLeDiff, Nat.reduceEqDiff, Nat.reduceAdd, Nat.reduceMul, Nat.reduceSub, ↓reduceIte, eq_self, c0, c1, c2, c3, nb])
    | ((with_reducible refine st_ret ?_ ?_); (exact rfl); try simp only [B, F, Nat.reduceLT, Nat.reduceLeDiff, Nat.reduceEqDiff, Nat.reduceAdd, Nat.reduceMul, Nat.reduceSub, ↓reduceIte, eq_self, c0, c1, c2, c3, nb])
    | ((with_reducible refine retW_intro rfl ?_); (conv => arg 2; whnf); simp only [B, F, Nat.reduceLT, Nat.reduceLeDiff, Nat.reduceEqDiff, Nat.reduceAdd, Nat.reduceMul, Nat.reduceSub, ↓reduceIte, eq_self, c0, c1, c2, c3, nb]))
  refine exW_grows (base := base) (h := h.newCells 22 [.int .u64 (.ofNat rev)]) (hg.of_get (Nat.le_succ _) (fun c hc => get_new _ _ _ (by have := hg.base hc; omega))) (by rw [nx_new]; omega) (by omega) (by omega) rfl (by omega) ?_
  intro v' h' hg' hnx hold hblk
  rw [u64s_snoc] at hg'
  have eb : h'.t.get b = h.t.get b := by rw [hold b (by rw [nx_new]; omega) hv, get_new _ _ _ (by omega)]
  have ec := cellAt_of_get eb
  have ew : wrAt h' b = true := by rw [wrAt_of_get eb]; exact wr
  have hcv := hg'.cells
  have hov := hg'.one
  have hlen := hg'.len (P := P) u23
  have hrel := refRel lt wr c0 c1 c3 c2 (nx_new _ _ _) (fun c hc => get_new _ _ _ (by omega)) hv (fun c hc => (hg.base hc).1) hg' hnx hold hblk
  rcases Nat.lt_or_ge keep rev with hk | hk
  · have d1 : decide (keep < rev) = true := decide_eq_true hk
    have hs : wrapF .u64 (Int.ofNat rev - Int.ofNat keep) = Int.ofNat (rev - keep) := u64_sub (by omega) h1
    have hm : refM 0 keep seen rev = rev - keep := by unfold refM; rw [if_neg (by omega), if_pos hk]
    simp only [B, F, Nat.reduceLT, Nat.reduceLeDiff, Nat.reduceEqDiff, Nat.reduceAdd, Nat.reduceMul, Nat.reduceSub, ↓reduceIte, eq_self, ec, c0, c1, c2, c3, put_sts, ew, hcv, hov, hlen, cellAt_sts ew, d0, d1, hs, wrAt_sts]
    repeat' (first
      | ((with_reducible refine st_seq ?_ ?_); (exact rfl))
      | ((with_reducible refine st_reg ?_ rfl rfl ?_); (exact rfl); (conv => arg 4; whnf); (conv => arg 3; whnf); simp only [B, F, Nat.reduceLT, Nat.reduceLeDiff, Nat.reduceEqDiff, Nat.reduceAdd, Nat.reduceMul, Nat.reduceSub, ↓reduceIte, eq_self, ec, c0, c1, c2, c3, put_sts, ew, hcv, hov, hlen, cellAt_sts ew, d0, d1, hs, wrAt_sts])
      | ((with_reducible refine st_drawn ?_ rfl rfl ?_ ?_); (exact rfl); (kernel_rfl); (conv => arg 4; whnf); (conv => arg 3; whnf); simp only [B, F, Nat.reduceLT, Nat.reduceLeDiff, Nat.reduceEqDiff, Nat.reduceAdd, Nat.reduceMul, Nat.reduceSub, ↓reduceIte, eq_self, ec, c0, c1, c2, c3, put_sts, ew, hcv, hov, hlen, cellAt_sts ew, d0, d1, hs, wrAt_sts])
      | ((with_reducible refine st_cond ?_ rfl ?_); (exact rfl); (conv => arg 1; arg 2; whnf); simp only [B, F, Nat.reduceLT, Nat.reduceLeDiff, Nat.reduceEqDiff, Nat.reduceAdd, Nat.reduceMul, Nat.reduceSub, ↓reduceIte, eq_self, ec, c0, c1, c2, c3, put_sts, ew, hcv, hov, hlen, cellAt_sts ew, d0, d1, hs, wrAt_sts])
      | ((with_reducible refine ifB_split (fun hb => ?_) (fun hb => ?_)) <;> simp only [hb, B, F, Nat.reduceLT, Nat.reduceLeDiff, Nat.reduceEqDiff, Nat.reduceAdd, Nat.reduceMul, Nat.reduceSub, ↓reduceIte, eq_self, ec, c0, c1, c2, c3, put_sts, ew, hcv, hov, hlen, cellAt_sts ew, d0, d1, hs, wrAt_sts])
      | ((with_reducible refine gW_split (fun hb => ?_) (fun hb => ?_)) <;> (try rw [Bool.not_true] at hb) <;> (try rw [Bool.not_false] at hb) <;> simp only [hb, B, F, Nat.reduceLT, Nat.reduceLeDiff, Nat.reduceEqDiff, Nat.reduceAdd, Nat.reduceMul, Nat.reduceSub, ↓reduceIte, eq_self, ec, c0, c1, c2, c3, put_sts, ew, hcv, hov, hlen, cellAt_sts ew, d0, d1, hs, wrAt_sts])
      | ((with_reducible refine st_block ?_ rfl ?_); (exact rfl); (conv => arg 9; arg 1; whnf))
      | ((with_reducible refine st_skip ?_ ?_); (exact rfl); simp only [B, F, Nat.reduceLT, Nat.reduceLeDiff, Nat.reduceEqDiff, Nat.reduceAdd, Nat.reduceMul, Nat.reduceSub, ↓reduceIte, eq_self, ec, c0, c1, c2, c3, put_sts, ew, hcv, hov, hlen, cellAt_sts ew, d0, d1, hs, wrAt_sts])
      | ((with_reducible refine st_exit ?_ rfl ?_); (exact rfl); (conv in exitId _ => whnf); simp only [B, F, Nat.reduceLT, Nat.reduceLeDiff, Nat.reduceEqDiff, Nat.reduceAdd, Nat.reduceMul, Nat.reduceSub, ↓reduceIte, eq_self, ec, c0, c1, c2, c3, put_sts, ew, hcv, hov, hlen, cellAt_sts ew, d0, d1, hs, wrAt_sts])
      | ((with_reducible refine st_ret ?_ ?_); (exact rfl); try simp only [B, F, Nat.reduceLT, Nat.reduceLeDiff, Nat.reduceEqDiff, Nat.reduceAdd, Nat.reduceMul, Nat.reduceSub, ↓reduceIte, eq_self, ec, c0, c1, c2, c3, put_sts, ew, hcv, hov, hlen, cellAt_sts ew, d0, d1, hs, wrAt_sts])
      | ((with_reducible refine retW_intro rfl ?_); (conv => arg 2; whnf); simp only [B, F, Nat.reduceLT, Nat.reduceLeDiff, Nat.reduceEqDiff, Nat.reduceAdd, Nat.reduceMul, Nat.reduceSub, ↓reduceIte, eq_self, ec, c0, c1, c2, c3, put_sts, ew, hcv, hov, hlen, cellAt_sts ew, d0, d1, hs, wrAt_sts]))
    all_goals refine ⟨_, ?_, hrel⟩
    all_goals rw [hm]
    all_goals first | exact post_low (by assumption) | exact post_told (by assumption) | exact post_new (by assumption) (by assumption)
  · have d1 : decide (keep < rev) = false := decide_eq_false (by omega)
    have hm : refM 0 keep seen rev = 0 := by unfold refM; rw [if_neg (by omega), if_neg (by omega)]
    simp only [B, F, Nat.reduceLT, Nat.reduceLeDiff, Nat.reduceEqDiff, Nat.reduceAdd, Nat.reduceMul, Nat.reduceSub, ↓reduceIte, eq_self, ec, c0, c1, c2, c3, put_sts, ew, hcv, hov, hlen, cellAt_sts ew, d0, d1, wrAt_sts]
    repeat' (first
      | ((with_reducible refine st_seq ?_ ?_); (exact rfl))
      | ((with_reducible refine st_reg ?_ rfl rfl ?_); (exact rfl); (conv => arg 4; whnf); (conv => arg 3; whnf); simp only [B, F, Nat.reduceLT, Nat.reduceLeDiff, Nat.reduceEqDiff, Nat.reduceAdd, Nat.reduceMul, Nat.reduceSub, ↓reduceIte, eq_self, ec, c0, c1, c2, c3, put_sts, ew, hcv, hov, hlen, cellAt_sts ew, d0, d1, wrAt_sts])
      | ((with_reducible refine st_drawn ?_ rfl rfl ?_ ?_); (exact rfl); (kernel_rfl); (conv => arg 4; whnf); (conv => arg 3; whnf); simp only [B, F, Nat.reduceLT, Nat.reduceLeDiff, Nat.reduceEqDiff, Nat.reduceAdd, Nat.reduceMul, Nat.reduceSub, ↓reduceIte, eq_self, ec, c0, c1, c2, c3, put_sts, ew, hcv, hov, hlen, cellAt_sts ew, d0, d1, wrAt_sts])
      | ((with_reducible refine st_cond ?_ rfl ?_); (exact rfl); (conv => arg 1; arg 2; whnf); simp only [B, F, Nat.reduceLT, Nat.reduceLeDiff, Nat.reduceEqDiff, Nat.reduceAdd, Nat.reduceMul, Nat.reduceSub, ↓reduceIte, eq_self, ec, c0, c1, c2, c3, put_sts, ew, hcv, hov, hlen, cellAt_sts ew, d0, d1, wrAt_sts])
      | ((with_reducible refine ifB_split (fun hb => ?_) (fun hb => ?_)) <;> simp only [hb, B, F, Nat.reduceLT, Nat.reduceLeDiff, Nat.reduceEqDiff, Nat.reduceAdd, Nat.reduceMul, Nat.reduceSub, ↓reduceIte, eq_self, ec, c0, c1, c2, c3, put_sts, ew, hcv, hov, hlen, cellAt_sts ew, d0, d1, wrAt_sts])
      | ((with_reducible refine gW_split (fun hb => ?_) (fun hb => ?_)) <;> (try rw [Bool.not_true] at hb) <;> (try rw [Bool.not_false] at hb) <;> simp only [hb, B, F, Nat.reduceLT, Nat.reduceLeDiff, Nat.reduceEqDiff, Nat.reduceAdd, Nat.reduceMul, Nat.reduceSub, ↓reduceIte, eq_self, ec, c0, c1, c2, c3, put_sts, ew, hcv, hov, hlen, cellAt_sts ew, d0, d1, wrAt_sts])
      | ((with_reducible refine st_block ?_ rfl ?_); (exact rfl); (conv => arg 9; arg 1; whnf))
      | ((with_reducible refine st_skip ?_ ?_); (exact rfl); simp only [B, F, Nat.reduceLT, Nat.reduceLeDiff, Nat.reduceEqDiff, Nat.reduceAdd, Nat.reduceMul, Nat.reduceSub, ↓reduceIte, eq_self, ec, c0, c1, c2, c3, put_sts, ew, hcv, hov, hlen, cellAt_sts ew, d0, d1, wrAt_sts])
      | ((with_reducible refine st_exit ?_ rfl ?_); (exact rfl); (conv in exitId _ => whnf); simp only [B, F, Nat.reduceLT, Nat.reduceLeDiff, Nat.reduceEqDiff, Nat.reduceAdd, Nat.reduceMul, Nat.reduceSub, ↓reduceIte, eq_self, ec, c0, c1, c2, c3, put_sts, ew, hcv, hov, hlen, cellAt_sts ew, d0, d1, wrAt_sts])
      | ((with_reducible refine st_ret ?_ ?_); (exact rfl); try simp only [B, F, Nat.reduceLT, Nat.reduceLeDiff, Nat.reduceEqDiff, Nat.reduceAdd, Nat.reduceMul, Nat.reduceSub, ↓reduceIte, eq_self, ec, c0, c1, c2, c3, put_sts, ew, hcv, hov, hlen, cellAt_sts ew, d0, d1, wrAt_sts])
      | ((with_reducible refine retW_intro rfl ?_); (conv => arg 2; whnf); simp only [B, F, Nat.reduceLT, Nat.reduceLeDiff, Nat.reduceEqDiff, Nat.reduceAdd, Nat.reduceMul, Nat.reduceSub, ↓reduceIte, eq_self, ec, c0, c1, c2, c3, put_sts, ew, hcv, hov, hlen, cellAt_sts ew, d0, d1, wrAt_sts]))
    all_goals refine ⟨_, ?_, hrel⟩
    all_goals rw [hm]
    all_goals exact post_low rfl
end
end Go.Proofs.Ytiegeehjbmogpaa.W


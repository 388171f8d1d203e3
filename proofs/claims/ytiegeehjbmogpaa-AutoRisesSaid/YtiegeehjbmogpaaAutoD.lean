/-
  auto: what the document's functions do, by periods.
-/
import Derived.Test.YtiegeehjbmogpaaAutoC
set_option linter.unusedSimpArgs false
set_option linter.unusedVariables false
namespace Go.Proofs.Ytiegeehjbmogpaa.W
open Go Go.AX
noncomputable section


theorem refTickE (h : H) (base b e told rev : Nat) (seen : List Nat) (hr : RefR h base b e 0 seen told) (h0 : 0 < e) (h1 : e ≤ 1000000) (hl : seen.length < 100) :
    PushC P (.enter 10 [.ptr b 0, .int .u64 (.ofNat rev)] h) (PostRefT h base b e 0 seen told rev) := by
  obtain ⟨lt, wr, c0, c1, ⟨v, c2, hg, hv⟩, c3⟩ := hr
  have nb : (b = h.nx) = False := by simp; omega
  have d0 : decide (0 < e) = true := decide_eq_true h0
  have hq := nat_ne_zero h0
  refine pushC_of_codeW (fn := Try.f10) (c := bodyC Try.f10) Try.func10 rfl ?_
  show codeW P 10 92 none _ _ _ _ _
  refine codeW_root ?_
  repeat' (first
    | ((with_reducible refine st_seq ?_ ?_); (exact rfl))
    | ((with_reducible refine st_reg ?_ rfl rfl ?_); (exact rfl); (conv => arg 4; whnf); (conv => arg 3; whnf); simp only [B, F, Nat.reduceLT, Nat.reduceLeDiff, Nat.reduceEqDiff, Nat.reduceAdd, Nat.reduceMul, Nat.reduceSub, ↓reduceIte, eq_self, c0, c1, c2, c3, nb])
    | ((with_reducible refine st_drawn ?_ rfl rfl ?_ ?_); (exact rfl); (kernel_rfl); (conv => arg 4; whnf); (conv => arg 3; whnf); simp only [B, F, Nat.reduceLT, Nat.reduceLeDiff, Nat.reduceEqDiff, Nat.reduceAdd, Nat.reduceMul, Nat.reduceSub, ↓reduceIte, eq_self, c0, c1, c2, c3, nb])
    | ((with_reducible refine st_cond ?_ rfl ?_); (exact rfl); (conv => arg 1; arg 2; whnf); simp only [B, F, Nat.reduceLT, Nat.reduceLeDiff, Nat.reduceEqDiff, Nat.reduceAdd, Nat.reduceMul, Nat.reduceSub, ↓reduceIte, eq_self, c0, c1, c2, c3, nb])
    | ((with_reducible refine ifB_split (fun hb => ?_) (fun hb => ?_)) <;> simp only [hb, B, F, Nat.reduceLT, Nat.reduceLeDiff, Nat.reduceEqDiff, Nat.reduceAdd, Nat.reduceMul, Nat.reduceSub, ↓reduceIte, eq_self, c0, c1, c2, c3, nb])
    | ((with_reducible refine gW_split (fun hb => ?_) (fun hb => ?_)) <;> (try rw [Bool.not_true] at hb) <;> (try rw [Bool.not_false] at hb) <;> simp only [hb, B, F, Nat.reduceLT, Nat.reduceLeDiff, Nat.reduceEqDiff, Nat.reduceAdd, Nat.reduceMul, Nat.reduceSub, ↓reduceIte, eq_self, c0, c1, c2, c3, nb])
    | ((with_reducible refine st_block ?_ rfl ?_); (exact rfl); (conv => arg 9; arg 1; whnf))
    | ((with_reducible refine st_skip ?_ ?_); (exact rfl); simp only [B, F, Nat.reduceLT, Nat.reduceLeDiff, Nat.reduceEqDiff, Nat.reduceAdd, Nat.reduceMul, Nat.reduceSub, ↓reduceIte, eq_self, c0, c1, c2, c3, nb])
    | ((with_reducible refine st_exit ?_ rfl ?_); (exact rfl); (conv in exitId _ => whnf); simp only [B, F, Nat.reduceLT, Nat.reduceLeDiff, Nat.reduceEqDiff, Nat.reduceAdd, Nat.reduceMul, Nat.reduceSub, ↓reduceIte, eq_self, c0, c1, c2, c3, nb])
    | ((with_reducible refine st_ret ?_ ?_); (exact rfl); try simp only [B, F, Nat.reduceLT, Nat.reduceLeDiff, Nat.reduceEqDiff, Nat.reduceAdd, Nat.reduceMul, Nat.reduceSub, ↓reduceIte, eq_self, c0, c1, c2, c3, nb])
    | ((with_reducible refine retW_intro rfl ?_); (conv => arg 2; whnf); simp only [B, F, Nat.reduceLT, Nat.reduceLeDiff, Nat.reduceEqDiff, Nat.reduceAdd, Nat.reduceMul, Nat.reduceSub, ↓reduceIte, eq_self, c0, c1, c2, c3, nb]))
  refine exW_grows (base := base) (h := h.newCells 22 [.int .u64 (.ofNat rev)]) (hg.of_get (Nat.le_succ _) (fun c hc => get_new _ _ _ (by have := hg.base hc; omega))) (by rw [nx_new]; omega) (by omega) (by omega) rfl (by omega) ?_
  intro v' h' hg' hnx hold hblk
  rw [u64s_snoc] at hg'
  have eb : h'.t.get b = h.t.get b := by rw [hold b (by rw [nx_new]; omega) hv, get_new _ _ _ (by omega)]
  have ec := cellAt_of_get eb
  have ew : wrAt h' b = true := by rw [wrAt_of_get eb]; exact wr
  have hcv := hg'.cells
  have hov := hg'.one
  have hlen := hg'.len (P := P) u23
  have hrel := refRel lt wr c0 c1 c3 c2 (nx_new _ _ _) (fun c hc => get_new _ _ _ (by omega)) hv (fun c hc => (hg.base hc).1) hg' hnx hold hblk
  rcases Nat.decEq ((seen.length + 1) % e) 0 with hk | hk
  · have d1 : decide ((seen.length + 1) % e = 0) = false := decide_eq_false hk
    have hm : refM e 0 seen rev = 0 := by unfold refM; rw [if_pos h0, if_neg (fun q => hk q.1)]
    simp only [B, F, Nat.reduceLT, Nat.reduceLeDiff, Nat.reduceEqDiff, Nat.reduceAdd, Nat.reduceMul, Nat.reduceSub, ↓reduceIte, eq_self, ec, c0, c1, c2, c3, put_sts, ew, hcv, hov, hlen, cellAt_sts ew, d0, d1, wrAt_sts, b_rem _ _ _ hq, tmod_nat]
    repeat' (first
      | ((with_reducible refine st_seq ?_ ?_); (exact rfl))
      | ((with_reducible refine st_reg ?_ rfl rfl ?_); (exact rfl); (conv => arg 4; whnf); (conv => arg 3; whnf); simp only [B, F, Nat.reduceLT, Nat.reduceLeDiff, Nat.reduceEqDiff, Nat.reduceAdd, Nat.reduceMul, Nat.reduceSub, ↓reduceIte, eq_self, ec, c0, c1, c2, c3, put_sts, ew, hcv, hov, hlen, cellAt_sts ew, d0, d1, wrAt_sts, b_rem _ _ _ hq, tmod_nat])
      | ((with_reducible refine st_drawn ?_ rfl rfl ?_ ?_); (exact rfl); (kernel_rfl); (conv => arg 4; whnf); (conv => arg 3; whnf); simp only [B, F, Nat.reduceLT, Nat.reduceLeDiff, Nat.reduceEqDiff, Nat.reduceAdd, Nat.reduceMul, Nat.reduceSub, ↓reduceIte, eq_self, ec, c0, c1, c2, c3, put_sts, ew, hcv, hov, hlen, cellAt_sts ew, d0, d1, wrAt_sts, b_rem _ _ _ hq, tmod_nat])
      | ((with_reducible refine st_cond ?_ rfl ?_); (exact rfl); (conv => arg 1; arg 2; whnf); simp only [B, F, Nat.reduceLT, Nat.reduceLeDiff, Nat.reduceEqDiff, Nat.reduceAdd, Nat.reduceMul, Nat.reduceSub, ↓reduceIte, eq_self, ec, c0, c1, c2, c3, put_sts, ew, hcv, hov, hlen, cellAt_sts ew, d0, d1, wrAt_sts, b_rem _ _ _ hq, tmod_nat])
      | ((with_reducible refine ifB_split (fun hb => ?_) (fun hb => ?_)) <;> simp only [hb, B, F, Nat.reduceLT, Nat.reduceLeDiff, Nat.reduceEqDiff, Nat.reduceAdd, Nat.reduceMul, Nat.reduceSub, ↓reduceIte, eq_self, ec, c0, c1, c2, c3, put_sts, ew, hcv, hov, hlen, cellAt_sts ew, d0, d1, wrAt_sts, b_rem _ _ _ hq, tmod_nat])
      | ((with_reducible refine gW_split (fun hb => ?_) (fun hb => ?_)) <;> (try rw [Bool.not_true] at hb) <;> (try rw [Bool.not_false] at hb) <;> simp only [hb, B, F, Nat.reduceLT, Nat.reduceLeDiff, Nat.reduceEqDiff, Nat.reduceAdd, Nat.reduceMul, Nat.reduceSub, ↓reduceIte, eq_self, ec, c0, c1, c2, c3, put_sts, ew, hcv, hov, hlen, cellAt_sts ew, d0, d1, wrAt_sts, b_rem _ _ _ hq, tmod_nat])
      | ((with_reducible refine st_block ?_ rfl ?_); (exact rfl); (conv => arg 9; arg 1; whnf))
      | ((with_reducible refine st_skip ?_ ?_); (exact rfl); simp only [B, F, Nat.reduceLT, Nat.reduceLeDiff, Nat.reduceEqDiff, Nat.reduceAdd, Nat.reduceMul, Nat.reduceSub, ↓reduceIte, eq_self, ec, c0, c1, c2, c3, put_sts, ew, hcv, hov, hlen, cellAt_sts ew, d0, d1, wrAt_sts, b_rem _ _ _ hq, tmod_nat])
      | ((with_reducible refine st_exit ?_ rfl ?_); (exact rfl); (conv in exitId _ => whnf); simp only [B, F, Nat.reduceLT, Nat.reduceLeDiff, Nat.reduceEqDiff, Nat.reduceAdd, Nat.reduceMul, Nat.reduceSub, ↓reduceIte, eq_self, ec, c0, c1, c2, c3, put_sts, ew, hcv, hov, hlen, cellAt_sts ew, d0, d1, wrAt_sts, b_rem _ _ _ hq, tmod_nat])
      | ((with_reducible refine st_ret ?_ ?_); (exact rfl); try simp only [B, F, Nat.reduceLT, Nat.reduceLeDiff, Nat.reduceEqDiff, Nat.reduceAdd, Nat.reduceMul, Nat.reduceSub, ↓reduceIte, eq_self, ec, c0, c1, c2, c3, put_sts, ew, hcv, hov, hlen, cellAt_sts ew, d0, d1, wrAt_sts, b_rem _ _ _ hq, tmod_nat])
      | ((with_reducible refine retW_intro rfl ?_); (conv => arg 2; whnf); simp only [B, F, Nat.reduceLT, Nat.reduceLeDiff, Nat.reduceEqDiff, Nat.reduceAdd, Nat.reduceMul, Nat.reduceSub, ↓reduceIte, eq_self, ec, c0, c1, c2, c3, put_sts, ew, hcv, hov, hlen, cellAt_sts ew, d0, d1, wrAt_sts, b_rem _ _ _ hq, tmod_nat]))
    all_goals refine ⟨_, ?_, hrel⟩
    all_goals rw [hm]
    all_goals exact post_low rfl
  · have d1 : decide ((seen.length + 1) % e = 0) = true := decide_eq_true hk
    rcases Nat.lt_or_ge e (seen.length + 1) with hk2 | hk2
    · have d2 : decide (e < seen.length + 1) = true := decide_eq_true hk2
      have hlt : seen.length + 1 - 1 - e < seen.length := by omega
      obtain ⟨m, hm0⟩ : ∃ m, (seen ++ [rev])[seen.length + 1 - 1 - e]? = some m := ⟨_, List.getElem?_eq_getElem (by simp; omega)⟩
      have hm : refM e 0 seen rev = m := by unfold refM; rw [if_pos h0, if_pos ⟨hk, hk2⟩, hm0]; rfl
      obtain ⟨vb, rfl⟩ : ∃ vb, v' = .slice vb 0 (seen.length + 1) (.opn 0) := by
        cases hg' with
        | cell b n cs t ty => exact ⟨_, rfl⟩
      have hs := hg'.slice
      have hvb : vb ≠ b := by
        intro q; subst q
        have : blkOf (.slice vb 0 (seen.length + 1) (.opn 0)) = some vb := rfl
        rw [this, nx_new] at hblk
        cases hblk; omega
      have hcell : cellAt h' vb (seen.length + 1 - 1 - e) = some (.int .u64 (.ofNat m)) := by
        cases hs with
        | cell _ _ _ _ _ hb hc =>
          have := hc (seen.length + 1 - 1 - e) (by simp [u64s]; omega)
          rw [Nat.zero_add] at this
          rw [this]; simp only [u64s, List.getElem?_map, hm0]; rfl
      have e1 : wrapF .i64 (Int.ofNat (seen.length + 1) - Int.ofNat 1) = Int.ofNat (seen.length + 1 - 1) := i64_sub (by omega) (by omega)
      have e2 : wrapF .i64 (Int.ofNat (seen.length + 1 - 1) - Int.ofNat e) = Int.ofNat (seen.length + 1 - 1 - e) := i64_sub (by omega) (by omega)
      have lt2 : (seen.length + 1 - 1 - e < seen.length + 1) = True := by simp; omega
      simp only [B, F, Nat.reduceLT, Nat.reduceLeDiff, Nat.reduceEqDiff, Nat.reduceAdd, Nat.reduceMul, Nat.reduceSub, ↓reduceIte, eq_self, ec, c0, c1, c2, c3, put_sts, ew, hcv, hov, hlen, cellAt_sts ew, d0, d1, d2, wrAt_sts, b_rem _ _ _ hq, tmod_nat, e1, e2, lt2, Nat.mul_one, hcell, hvb]
      repeat' (first
        | ((with_reducible refine st_seq ?_ ?_); (exact rfl))
        | ((with_reducible refine st_reg ?_ rfl rfl ?_); (exact rfl); (conv => arg 4; whnf); (conv => arg 3; whnf); simp only [B, F, Nat.reduceLT, Nat.reduceLeDiff, Nat.reduceEqDiff, Nat.reduceAdd, Nat.reduceMul, Nat.reduceSub, ↓reduceIte, eq_self, ec, c0, c1, c2, c3, put_sts, ew, hcv, hov, hlen, cellAt_sts ew, d0, d1, d2, wrAt_sts, b_rem _ _ _ hq, tmod_nat, e1, e2, lt2, Nat.mul_one, hcell, hvb])
        | ((with_reducible refine st_drawn ?_ rfl rfl ?_ ?_); (exact rfl); (kernel_rfl); (conv => arg 4; whnf); (conv => arg 3; whnf); simp only [B, F, Nat.reduceLT, Nat.reduceLeDiff, Nat.reduceEqDiff, Nat.reduceAdd, Nat.reduceMul, Nat.reduceSub, ↓reduceIte, eq_self, ec, c0, c1, c2, c3, put_sts, ew, hcv, hov, hlen, cellAt_sts ew, d0, d1, d2, wrAt_sts, b_rem _ _ _ hq, tmod_nat, e1, e2, lt2, Nat.mul_one, hcell, hvb])
        | ((with_reducible refine st_cond ?_ rfl ?_); (exact rfl); (conv => arg 1; arg 2; whnf); simp only [B, F, Nat.reduceLT, Nat.reduceLeDiff, Nat.reduceEqDiff, Nat.reduceAdd, Nat.reduceMul, Nat.reduceSub, ↓reduceIte, eq_self, ec, c0, c1, c2, c3, put_sts, ew, hcv, hov, hlen, cellAt_sts ew, d0, d1, d2, wrAt_sts, b_rem _ _ _ hq, tmod_nat, e1, e2, lt2, Nat.mul_one, hcell, hvb])
        | ((with_reducible refine ifB_split (fun hb => ?_) (fun hb => ?_)) <;> simp only [hb, B, F, Nat.reduceLT, Nat.reduceLeDiff, Nat.reduceEqDiff, Nat.reduceAdd, Nat.reduceMul, Nat.reduceSub, ↓reduceIte, eq_self, ec, c0, c1, c2, c3, put_sts, ew, hcv, hov, hlen, cellAt_sts ew, d0, d1, d2, wrAt_sts, b_rem _ _ _ hq, tmod_nat, e1, e2, lt2, Nat.mul_one, hcell, hvb])
        | ((with_reducible refine gW_split (fun hb => ?_) (fun hb => ?_)) <;> (try rw [Bool.not_true] at hb) <;> (try rw [Bool.not_false] at hb) <;> simp only [hb, B, F, Nat.reduceLT, Nat.reduceLeDiff, Nat.reduceEqDiff, Nat.reduceAdd, Nat.reduceMul, Nat.reduceSub, ↓reduceIte, eq_self, ec, c0, c1, c2, c3, put_sts, ew, hcv, hov, hlen, cellAt_sts ew, d0, d1, d2, wrAt_sts, b_rem _ _ _ hq, tmod_nat, e1, e2, lt2, Nat.mul_one, hcell, hvb])
        | ((with_reducible refine st_block ?_ rfl ?_); (exact rfl); (conv => arg 9; arg 1; whnf))
        | ((with_reducible refine st_skip ?_ ?_); (exact rfl); simp only [B, F, Nat.reduceLT, Nat.reduceLeDiff, Nat.reduceEqDiff, Nat.reduceAdd, Nat.reduceMul, Nat.reduceSub, ↓reduceIte, eq_self, ec, c0, c1, c2, c3, put_sts, ew, hcv, hov, hlen, cellAt_sts ew, d0, d1, d2, wrAt_sts, b_rem _ _ _ hq, tmod_nat, e1, e2, lt2, Nat.mul_one, hcell, hvb])
        | ((with_reducible refine st_exit ?_ rfl ?_); (exact rfl); (conv in exitId _ => whnf); simp only [B, F, Nat.reduceLT, Nat.reduceLeDiff, Nat.reduceEqDiff, Nat.reduceAdd, Nat.reduceMul, Nat.reduceSub, ↓reduceIte, eq_self, ec, c0, c1, c2, c3, put_sts, ew, hcv, hov, hlen, cellAt_sts ew, d0, d1, d2, wrAt_sts, b_rem _ _ _ hq, tmod_nat, e1, e2, lt2, Nat.mul_one, hcell, hvb])
        | ((with_reducible refine st_ret ?_ ?_); (exact rfl); try simp only [B, F, Nat.reduceLT, Nat.reduceLeDiff, Nat.reduceEqDiff, Nat.reduceAdd, Nat.reduceMul, Nat.reduceSub, ↓reduceIte, eq_self, ec, c0, c1, c2, c3, put_sts, ew, hcv, hov, hlen, cellAt_sts ew, d0, d1, d2, wrAt_sts, b_rem _ _ _ hq, tmod_nat, e1, e2, lt2, Nat.mul_one, hcell, hvb])
        | ((with_reducible refine retW_intro rfl ?_); (conv => arg 2; whnf); simp only [B, F, Nat.reduceLT, Nat.reduceLeDiff, Nat.reduceEqDiff, Nat.reduceAdd, Nat.reduceMul, Nat.reduceSub, ↓reduceIte, eq_self, ec, c0, c1, c2, c3, put_sts, ew, hcv, hov, hlen, cellAt_sts ew, d0, d1, d2, wrAt_sts, b_rem _ _ _ hq, tmod_nat, e1, e2, lt2, Nat.mul_one, hcell, hvb]))
      all_goals refine ⟨_, ?_, hrel⟩
      all_goals rw [hm]
      all_goals first | exact post_low (by assumption) | exact post_told (by assumption) | exact post_new (by assumption) (by assumption)
    · have d2 : decide (e < seen.length + 1) = false := decide_eq_false (by omega)
      have hm : refM e 0 seen rev = 0 := by unfold refM; rw [if_pos h0, if_neg (fun q => by omega)]
      simp only [B, F, Nat.reduceLT, Nat.reduceLeDiff, Nat.reduceEqDiff, Nat.reduceAdd, Nat.reduceMul, Nat.reduceSub, ↓reduceIte, eq_self, ec, c0, c1, c2, c3, put_sts, ew, hcv, hov, hlen, cellAt_sts ew, d0, d1, d2, wrAt_sts, b_rem _ _ _ hq, tmod_nat]
      repeat' (first
        | ((with_reducible refine st_seq ?_ ?_); (exact rfl))
        | ((with_reducible refine st_reg ?_ rfl rfl ?_); (exact rfl); (conv => arg 4; whnf); (conv => arg 3; whnf); simp only [B, F, Nat.reduceLT, Nat.reduceLeDiff, Nat.reduceEqDiff, Nat.reduceAdd, Nat.reduceMul, Nat.reduceSub, ↓reduceIte, eq_self, ec, c0, c1, c2, c3, put_sts, ew, hcv, hov, hlen, cellAt_sts ew, d0, d1, d2, wrAt_sts, b_rem _ _ _ hq, tmod_nat])
        | ((with_reducible refine st_drawn ?_ rfl rfl ?_ ?_); (exact rfl); (kernel_rfl); (conv => arg 4; whnf); (conv => arg 3; whnf); simp only [B, F, Nat.reduceLT, Nat.reduceLeDiff, Nat.reduceEqDiff, Nat.reduceAdd, Nat.reduceMul, Nat.reduceSub, ↓reduceIte, eq_self, ec, c0, c1, c2, c3, put_sts, ew, hcv, hov, hlen, cellAt_sts ew, d0, d1, d2, wrAt_sts, b_rem _ _ _ hq, tmod_nat])
        | ((with_reducible refine st_cond ?_ rfl ?_); (exact rfl); (conv => arg 1; arg 2; whnf); simp only [B, F, Nat.reduceLT, Nat.reduceLeDiff, Nat.reduceEqDiff, Nat.reduceAdd, Nat.reduceMul, Nat.reduceSub, ↓reduceIte, eq_self, ec, c0, c1, c2, c3, put_sts, ew, hcv, hov, hlen, cellAt_sts ew, d0, d1, d2, wrAt_sts, b_rem _ _ _ hq, tmod_nat])
        | ((with_reducible refine ifB_split (fun hb => ?_) (fun hb => ?_)) <;> simp only [hb, B, F, Nat.reduceLT, Nat.reduceLeDiff, Nat.reduceEqDiff, Nat.reduceAdd, Nat.reduceMul, Nat.reduceSub, ↓reduceIte, eq_self, ec, c0, c1, c2, c3, put_sts, ew, hcv, hov, hlen, cellAt_sts ew, d0, d1, d2, wrAt_sts, b_rem _ _ _ hq, tmod_nat])
        | ((with_reducible refine gW_split (fun hb => ?_) (fun hb => ?_)) <;> (try rw [Bool.not_true] at hb) <;> (try rw [Bool.not_false] at hb) <;> simp only [hb, B, F, Nat.reduceLT, Nat.reduceLeDiff, Nat.reduceEqDiff, Nat.reduceAdd, Nat.reduceMul, Nat.reduceSub, ↓reduceIte, eq_self, ec, c0, c1, c2, c3, put_sts, ew, hcv, hov, hlen, cellAt_sts ew, d0, d1, d2, wrAt_sts, b_rem _ _ _ hq, tmod_nat])
        | ((with_reducible refine st_block ?_ rfl ?_); (exact rfl); (conv => arg 9; arg 1; whnf))
        | ((with_reducible refine st_skip ?_ ?_); (exact rfl); simp only [B, F, Nat.reduceLT, Nat.reduceLeDiff, Nat.reduceEqDiff, Nat.reduceAdd, Nat.reduceMul, Nat.reduceSub, ↓reduceIte, eq_self, ec, c0, c1, c2, c3, put_sts, ew, hcv, hov, hlen, cellAt_sts ew, d0, d1, d2, wrAt_sts, b_rem _ _ _ hq, tmod_nat])
        | ((with_reducible refine st_exit ?_ rfl ?_); (exact rfl); (conv in exitId _ => whnf); simp only [B, F, Nat.reduceLT, Nat.reduceLeDiff, Nat.reduceEqDiff, Nat.reduceAdd, Nat.reduceMul, Nat.reduceSub, ↓reduceIte, eq_self, ec, c0, c1, c2, c3, put_sts, ew, hcv, hov, hlen, cellAt_sts ew, d0, d1, d2, wrAt_sts, b_rem _ _ _ hq, tmod_nat])
        | ((with_reducible refine st_ret ?_ ?_); (exact rfl); try simp only [B, F, Nat.reduceLT, Nat.reduceLeDiff, Nat.reduceEqDiff, Nat.reduceAdd, Nat.reduceMul, Nat.reduceSub, ↓reduceIte, eq_self, ec, c0, c1, c2, c3, put_sts, ew, hcv, hov, hlen, cellAt_sts ew, d0, d1, d2, wrAt_sts, b_rem _ _ _ hq, tmod_nat])
        | ((with_reducible refine retW_intro rfl ?_); (conv => arg 2; whnf); simp only [B, F, Nat.reduceLT, Nat.reduceLeDiff, Nat.reduceEqDiff, Nat.reduceAdd, Nat.reduceMul, Nat.reduceSub, ↓reduceIte, eq_self, ec, c0, c1, c2, c3, put_sts, ew, hcv, hov, hlen, cellAt_sts ew, d0, d1, d2, wrAt_sts, b_rem _ _ _ hq, tmod_nat]))
      all_goals refine ⟨_, ?_, hrel⟩
      all_goals rw [hm]
      all_goals exact post_low rfl
end
end Go.Proofs.Ytiegeehjbmogpaa.W


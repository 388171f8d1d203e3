/-
  auto: what a tick does.
-/
import Derived.Test.YtiegeehjbmogpaaAuto3
set_option linter.unusedSimpArgs false
set_option linter.unusedVariables false
namespace Go.Proofs.Ytiegeehjbmogpaa.W
open Go Go.AX
noncomputable section


/-- A tick's answer, of what should be, and what was told. -/
def PostTick (h : H) (a c told m : Nat) (v : AV) (h' : H) : Prop :=
  ((m ≤ 1 ∨ m ≤ told) ∧ v = .tuple [.int .u64 (.ofNat 0), .bool false] ∧ h' = h) ∨ (¬ (m ≤ 1 ∨ m ≤ told) ∧ v = .tuple [.int .u64 (.ofNat m), .bool true] ∧ h' = h.sts a c [.int .u64 (.ofNat m)])

theorem post_low {h : H} {a c told m : Nat} (hb : decide (m ≤ 1) = true) : PostTick h a c told m (.tuple [.int .u64 (.ofNat 0), .bool false]) h := .inl ⟨.inl (of_decide_eq_true hb), rfl, rfl⟩
theorem post_told {h : H} {a c told m : Nat} (hb : decide (m ≤ told) = true) : PostTick h a c told m (.tuple [.int .u64 (.ofNat 0), .bool false]) h := .inl ⟨.inr (of_decide_eq_true hb), rfl, rfl⟩
theorem post_new {h : H} {a c told m : Nat} (h1 : decide (m ≤ 1) = false) (h2 : decide (m ≤ told) = false) : PostTick h a c told m (.tuple [.int .u64 (.ofNat m), .bool true]) (h.sts a c [.int .u64 (.ofNat m)]) :=
  .inr ⟨fun q => q.elim (of_decide_eq_false h1) (of_decide_eq_false h2), rfl, rfl⟩

theorem tickRet (h : H) (a keep told rev : Nat) (hr : RetR h a keep told) (h1 : rev < 18446744073709551616) :
    PushC P (.enter 9 [.ptr a 0, .int .u64 (.ofNat rev)] h) (PostTick h a 4 told (if rev ≤ keep then 0 else rev - keep)) := by
  obtain ⟨lt, wr, c0, c2, c4⟩ := hr
  refine pushC_of_codeW (fn := Try.f9) (c := bodyC Try.f9) Try.func9 rfl ?_
  show codeW P 9 29 none _ _ _ _ _
  refine codeW_root ?_
  repeat' (first
    | ((with_reducible refine st_seq ?_ ?_); (exact rfl))
    | ((with_reducible refine st_reg ?_ rfl rfl ?_); (exact rfl); (conv => arg 4; whnf); (conv => arg 3; whnf); simp only [B, F, Nat.reduceLT, Nat.reduceLeDiff, Nat.reduceEqDiff, Nat.reduceAdd, Nat.reduceMul, Nat.reduceSub, ↓reduceIte, eq_self, c0, c4])
    | ((with_reducible refine st_drawn ?_ rfl rfl ?_ ?_); (exact rfl); (kernel_rfl); (conv => arg 4; whnf); (conv => arg 3; whnf); simp only [B, F, Nat.reduceLT, Nat.reduceLeDiff, Nat.reduceEqDiff, Nat.reduceAdd, Nat.reduceMul, Nat.reduceSub, ↓reduceIte, eq_self, c0, c4])
    | ((with_reducible refine st_cond ?_ rfl ?_); (exact rfl); (conv => arg 1; arg 2; whnf); simp only [B, F, Nat.reduceLT, Nat.reduceLeDiff, Nat.reduceEqDiff, Nat.reduceAdd, Nat.reduceMul, Nat.reduceSub, ↓reduceIte, eq_self, c0, c4])
    | ((with_reducible refine ifB_split (fun hb => ?_) (fun hb => ?_)) <;> simp only [hb, B, F, Nat.reduceLT, Nat.reduceLeDiff, Nat.reduceEqDiff, Nat.reduceAdd, Nat.reduceMul, Nat.reduceSub, ↓reduceIte, eq_self, c0, c4])
    | ((with_reducible refine gW_split (fun hb => ?_) (fun hb => ?_)) <;> (try rw [Bool.not_true] at hb) <;> (try rw [Bool.not_false] at hb) <;> simp only [hb, B, F, Nat.reduceLT, Nat.reduceLeDiff, Nat.reduceEqDiff, Nat.reduceAdd, Nat.reduceMul, Nat.reduceSub, ↓reduceIte, eq_self, c0, c4])
    | ((with_reducible refine st_block ?_ rfl ?_); (exact rfl); (conv => arg 9; arg 1; whnf))
    | ((with_reducible refine st_skip ?_ ?_); (exact rfl); simp only [B, F, Nat.reduceLT, Nat.reduceLeDiff, Nat.reduceEqDiff, Nat.reduceAdd, Nat.reduceMul, Nat.reduceSub, ↓reduceIte, eq_self, c0, c4])
    | ((with_reducible refine st_exit ?_ rfl ?_); (exact rfl); (conv in exitId _ => whnf); simp only [B, F, Nat.reduceLT, Nat.reduceLeDiff, Nat.reduceEqDiff, Nat.reduceAdd, Nat.reduceMul, Nat.reduceSub, ↓reduceIte, eq_self, c0, c4])
    | ((with_reducible refine st_ret ?_ ?_); (exact rfl); try simp only [B, F, Nat.reduceLT, Nat.reduceLeDiff, Nat.reduceEqDiff, Nat.reduceAdd, Nat.reduceMul, Nat.reduceSub, ↓reduceIte, eq_self, c0, c4])
    | ((with_reducible refine retW_intro rfl ?_); (conv => arg 2; whnf); simp only [B, F, Nat.reduceLT, Nat.reduceLeDiff, Nat.reduceEqDiff, Nat.reduceAdd, Nat.reduceMul, Nat.reduceSub, ↓reduceIte, eq_self, c0, c4]))
  refine ((byRet _ a rev keep c2 h1).call P).mono P ?_
  rintro v h' ⟨rfl, rfl⟩
  generalize (if rev ≤ keep then 0 else rev - keep) = m
  simp only [B, F, Nat.reduceLT, Nat.reduceLeDiff, Nat.reduceEqDiff, Nat.reduceAdd, Nat.reduceMul, Nat.reduceSub, ↓reduceIte, eq_self, c4]
  repeat' (first
    | ((with_reducible refine st_seq ?_ ?_); (exact rfl))
    | ((with_reducible refine st_reg ?_ rfl rfl ?_); (exact rfl); (conv => arg 4; whnf); (conv => arg 3; whnf); simp only [B, F, Nat.reduceLT, Nat.reduceLeDiff, Nat.reduceEqDiff, Nat.reduceAdd, Nat.reduceMul, Nat.reduceSub, ↓reduceIte, eq_self, c4, put_sts, wr])
    | ((with_reducible refine st_drawn ?_ rfl rfl ?_ ?_); (exact rfl); (kernel_rfl); (conv => arg 4; whnf); (conv => arg 3; whnf); simp only [B, F, Nat.reduceLT, Nat.reduceLeDiff, Nat.reduceEqDiff, Nat.reduceAdd, Nat.reduceMul, Nat.reduceSub, ↓reduceIte, eq_self, c4, put_sts, wr])
    | ((with_reducible refine st_cond ?_ rfl ?_); (exact rfl); (conv => arg 1; arg 2; whnf); simp only [B, F, Nat.reduceLT, Nat.reduceLeDiff, Nat.reduceEqDiff, Nat.reduceAdd, Nat.reduceMul, Nat.reduceSub, ↓reduceIte, eq_self, c4, put_sts, wr])
    | ((with_reducible refine ifB_split (fun hb => ?_) (fun hb => ?_)) <;> simp only [hb, B, F, Nat.reduceLT, Nat.reduceLeDiff, Nat.reduceEqDiff, Nat.reduceAdd, Nat.reduceMul, Nat.reduceSub, ↓reduceIte, eq_self, c4, put_sts, wr])
    | ((with_reducible refine gW_split (fun hb => ?_) (fun hb => ?_)) <;> (try rw [Bool.not_true] at hb) <;> (try rw [Bool.not_false] at hb) <;> simp only [hb, B, F, Nat.reduceLT, Nat.reduceLeDiff, Nat.reduceEqDiff, Nat.reduceAdd, Nat.reduceMul, Nat.reduceSub, ↓reduceIte, eq_self, c4, put_sts, wr])
    | ((with_reducible refine st_block ?_ rfl ?_); (exact rfl); (conv => arg 9; arg 1; whnf))
    | ((with_reducible refine st_skip ?_ ?_); (exact rfl); simp only [B, F, Nat.reduceLT, Nat.reduceLeDiff, Nat.reduceEqDiff, Nat.reduceAdd, Nat.reduceMul, Nat.reduceSub, ↓reduceIte, eq_self, c4, put_sts, wr])
    | ((with_reducible refine st_exit ?_ rfl ?_); (exact rfl); (conv in exitId _ => whnf); simp only [B, F, Nat.reduceLT, Nat.reduceLeDiff, Nat.reduceEqDiff, Nat.reduceAdd, Nat.reduceMul, Nat.reduceSub, ↓reduceIte, eq_self, c4, put_sts, wr])
    | ((with_reducible refine st_ret ?_ ?_); (exact rfl); try simp only [B, F, Nat.reduceLT, Nat.reduceLeDiff, Nat.reduceEqDiff, Nat.reduceAdd, Nat.reduceMul, Nat.reduceSub, ↓reduceIte, eq_self, c4, put_sts, wr])
    | ((with_reducible refine retW_intro rfl ?_); (conv => arg 2; whnf); simp only [B, F, Nat.reduceLT, Nat.reduceLeDiff, Nat.reduceEqDiff, Nat.reduceAdd, Nat.reduceMul, Nat.reduceSub, ↓reduceIte, eq_self, c4, put_sts, wr]))
  all_goals first | exact post_low (by assumption) | exact post_told (by assumption) | exact post_new (by assumption) (by assumption)

/-- The heap behind a period's tick: whether it ended. -/
def perH (h : H) (a nb n e rev : Nat) : H := if (n + 1) % e = 0 then (h.sts nb 0 [.int .i64 (.ofNat ((n + 1) % e))]).sts a 3 [.int .u64 (.ofNat rev)] else h.sts nb 0 [.int .i64 (.ofNat ((n + 1) % e))]
def perM (n e seen : Nat) : Nat := if (n + 1) % e = 0 then seen else 0
def Post13 (h : H) (a nb n e seen rev : Nat) (v : AV) (h' : H) : Prop := h' = perH h a nb n e rev ∧ v = .int .u64 (.ofNat (perM n e seen))

theorem byPer (h : H) (a nb eb e n seen told rev : Nat) (hr : PerR h a nb eb e n seen told) (h0 : 0 < e) (h1 : n < e) (h2 : e ≤ 1000000) :
    PushC P (.enter 13 [.ptr a 0, .int .u64 (.ofNat rev)] h) (Post13 h a nb n e seen rev) := by
  obtain ⟨lt, ne, wr, c0, c1, c3, c4, cn, ce⟩ := hr
  refine pushC_of_codeW (fn := Try.f13) (c := bodyC Try.f13) Try.func13 rfl ?_
  show codeW P 13 21 none _ _ _ _ _
  refine codeW_root ?_
  repeat' (first
    | ((with_reducible refine st_seq ?_ ?_); (exact rfl))
    | ((with_reducible refine st_reg ?_ rfl rfl ?_); (exact rfl); (conv => arg 4; whnf); (conv => arg 3; whnf); simp only [B, F, Nat.reduceLT, Nat.reduceLeDiff, Nat.reduceEqDiff, Nat.reduceAdd, Nat.reduceMul, Nat.reduceSub, ↓reduceIte, eq_self, c1, c3])
    | ((with_reducible refine st_drawn ?_ rfl rfl ?_ ?_); (exact rfl); (kernel_rfl); (conv => arg 4; whnf); (conv => arg 3; whnf); simp only [B, F, Nat.reduceLT, Nat.reduceLeDiff, Nat.reduceEqDiff, Nat.reduceAdd, Nat.reduceMul, Nat.reduceSub, ↓reduceIte, eq_self, c1, c3])
    | ((with_reducible refine st_cond ?_ rfl ?_); (exact rfl); (conv => arg 1; arg 2; whnf); simp only [B, F, Nat.reduceLT, Nat.reduceLeDiff, Nat.reduceEqDiff, Nat.reduceAdd, Nat.reduceMul, Nat.reduceSub, ↓reduceIte, eq_self, c1, c3])
    | ((with_reducible refine ifB_split (fun hb => ?_) (fun hb => ?_)) <;> simp only [hb, B, F, Nat.reduceLT, Nat.reduceLeDiff, Nat.reduceEqDiff, Nat.reduceAdd, Nat.reduceMul, Nat.reduceSub, ↓reduceIte, eq_self, c1, c3])
    | ((with_reducible refine gW_split (fun hb => ?_) (fun hb => ?_)) <;> (try rw [Bool.not_true] at hb) <;> (try rw [Bool.not_false] at hb) <;> simp only [hb, B, F, Nat.reduceLT, Nat.reduceLeDiff, Nat.reduceEqDiff, Nat.reduceAdd, Nat.reduceMul, Nat.reduceSub, ↓reduceIte, eq_self, c1, c3])
    | ((with_reducible refine st_block ?_ rfl ?_); (exact rfl); (conv => arg 9; arg 1; whnf))
    | ((with_reducible refine st_skip ?_ ?_); (exact rfl); simp only [B, F, Nat.reduceLT, Nat.reduceLeDiff, Nat.reduceEqDiff, Nat.reduceAdd, Nat.reduceMul, Nat.reduceSub, ↓reduceIte, eq_self, c1, c3])
    | ((with_reducible refine st_exit ?_ rfl ?_); (exact rfl); (conv in exitId _ => whnf); simp only [B, F, Nat.reduceLT, Nat.reduceLeDiff, Nat.reduceEqDiff, Nat.reduceAdd, Nat.reduceMul, Nat.reduceSub, ↓reduceIte, eq_self, c1, c3])
    | ((with_reducible refine st_ret ?_ ?_); (exact rfl); try simp only [B, F, Nat.reduceLT, Nat.reduceLeDiff, Nat.reduceEqDiff, Nat.reduceAdd, Nat.reduceMul, Nat.reduceSub, ↓reduceIte, eq_self, c1, c3])
    | ((with_reducible refine retW_intro rfl ?_); (conv => arg 2; whnf); simp only [B, F, Nat.reduceLT, Nat.reduceLeDiff, Nat.reduceEqDiff, Nat.reduceAdd, Nat.reduceMul, Nat.reduceSub, ↓reduceIte, eq_self, c1, c3]))
  refine ((ends h nb eb n e ne.2.2 wr.2 cn ce h0 h1 h2).call P).mono P ?_
  rintro v h' ⟨rfl, rfl⟩
  have na := ne.1.symm
  simp only [B, F, Nat.reduceLT, Nat.reduceLeDiff, Nat.reduceEqDiff, Nat.reduceAdd, Nat.reduceMul, Nat.reduceSub, ↓reduceIte, eq_self]
  repeat' (first
    | ((with_reducible refine st_seq ?_ ?_); (exact rfl))
    | ((with_reducible refine st_reg ?_ rfl rfl ?_); (exact rfl); (conv => arg 4; whnf); (conv => arg 3; whnf); simp only [B, F, Nat.reduceLT, Nat.reduceLeDiff, Nat.reduceEqDiff, Nat.reduceAdd, Nat.reduceMul, Nat.reduceSub, ↓reduceIte, eq_self, cellAt_sts wr.2, c3, na, put_sts, wr.1])
    | ((with_reducible refine st_drawn ?_ rfl rfl ?_ ?_); (exact rfl); (kernel_rfl); (conv => arg 4; whnf); (conv => arg 3; whnf); simp only [B, F, Nat.reduceLT, Nat.reduceLeDiff, Nat.reduceEqDiff, Nat.reduceAdd, Nat.reduceMul, Nat.reduceSub, ↓reduceIte, eq_self, cellAt_sts wr.2, c3, na, put_sts, wr.1])
    | ((with_reducible refine st_cond ?_ rfl ?_); (exact rfl); (conv => arg 1; arg 2; whnf); simp only [B, F, Nat.reduceLT, Nat.reduceLeDiff, Nat.reduceEqDiff, Nat.reduceAdd, Nat.reduceMul, Nat.reduceSub, ↓reduceIte, eq_self, cellAt_sts wr.2, c3, na, put_sts, wr.1])
    | ((with_reducible refine ifB_split (fun hb => ?_) (fun hb => ?_)) <;> simp only [hb, B, F, Nat.reduceLT, Nat.reduceLeDiff, Nat.reduceEqDiff, Nat.reduceAdd, Nat.reduceMul, Nat.reduceSub, ↓reduceIte, eq_self, cellAt_sts wr.2, c3, na, put_sts, wr.1])
    | ((with_reducible refine gW_split (fun hb => ?_) (fun hb => ?_)) <;> (try rw [Bool.not_true] at hb) <;> (try rw [Bool.not_false] at hb) <;> simp only [hb, B, F, Nat.reduceLT, Nat.reduceLeDiff, Nat.reduceEqDiff, Nat.reduceAdd, Nat.reduceMul, Nat.reduceSub, ↓reduceIte, eq_self, cellAt_sts wr.2, c3, na, put_sts, wr.1])
    | ((with_reducible refine st_block ?_ rfl ?_); (exact rfl); (conv => arg 9; arg 1; whnf))
    | ((with_reducible refine st_skip ?_ ?_); (exact rfl); simp only [B, F, Nat.reduceLT, Nat.reduceLeDiff, Nat.reduceEqDiff, Nat.reduceAdd, Nat.reduceMul, Nat.reduceSub, ↓reduceIte, eq_self, cellAt_sts wr.2, c3, na, put_sts, wr.1])
    | ((with_reducible refine st_exit ?_ rfl ?_); (exact rfl); (conv in exitId _ => whnf); simp only [B, F, Nat.reduceLT, Nat.reduceLeDiff, Nat.reduceEqDiff, Nat.reduceAdd, Nat.reduceMul, Nat.reduceSub, ↓reduceIte, eq_self, cellAt_sts wr.2, c3, na, put_sts, wr.1])
    | ((with_reducible refine st_ret ?_ ?_); (exact rfl); try simp only [B, F, Nat.reduceLT, Nat.reduceLeDiff, Nat.reduceEqDiff, Nat.reduceAdd, Nat.reduceMul, Nat.reduceSub, ↓reduceIte, eq_self, cellAt_sts wr.2, c3, na, put_sts, wr.1])
    | ((with_reducible refine retW_intro rfl ?_); (conv => arg 2; whnf); simp only [B, F, Nat.reduceLT, Nat.reduceLeDiff, Nat.reduceEqDiff, Nat.reduceAdd, Nat.reduceMul, Nat.reduceSub, ↓reduceIte, eq_self, cellAt_sts wr.2, c3, na, put_sts, wr.1]))
  · have hb := of_decide_eq_false (Bool.not_eq_true' _ ▸ hb)
    exact ⟨by rw [perH, if_neg hb], by rw [perM, if_neg hb]⟩
  · have hb : decide ((n + 1) % e = 0) = true := by simpa using hb
    have hb := of_decide_eq_true hb
    exact ⟨by rw [perH, if_pos hb], by rw [perM, if_pos hb]⟩

theorem perH_rel {h : H} {a nb eb e n seen told rev : Nat} (hr : PerR h a nb eb e n seen told) : PerR (perH h a nb n e rev) a nb eb e ((n + 1) % e) (if (n + 1) % e = 0 then rev else seen) told ∧ Only h (perH h a nb n e rev) [a, nb, eb] := by
  obtain ⟨lt, ne, wr, c0, c1, c3, c4, cn, ce⟩ := hr
  have wn := wr.2
  have wa := wr.1
  have na := ne.1.symm
  have nea := ne.2.1
  have nb1 := ne.2.2.symm
  have wa' : wrAt (h.sts nb 0 [.int .i64 (.ofNat ((n + 1) % e))]) a = true := by rw [wrAt_sts]; exact wa
  unfold perH
  split
  · refine ⟨⟨?_, ne, ?_, ?_, ?_, ?_, ?_, ?_, ?_⟩, ((Only.refl h _).sts (.inl (by simp))).sts (.inl (by simp))⟩
    all_goals first
      | (simp only [nx_sts]; exact lt)
      | (simp only [wrAt_sts]; exact ⟨wa, wn⟩)
      | simp only [B, F, Nat.reduceLT, Nat.reduceLeDiff, Nat.reduceEqDiff, Nat.reduceAdd, Nat.reduceMul, Nat.reduceSub, ↓reduceIte, eq_self, cellAt_sts wn, cellAt_sts wa', c0, c1, c3, c4, cn, ce, na, ne.1, nea, nb1]
  · refine ⟨⟨?_, ne, ?_, ?_, ?_, ?_, ?_, ?_, ?_⟩, (Only.refl h _).sts (.inl (by simp))⟩
    all_goals first
      | (simp only [nx_sts]; exact lt)
      | (simp only [wrAt_sts]; exact ⟨wa, wn⟩)
      | simp only [B, F, Nat.reduceLT, Nat.reduceLeDiff, Nat.reduceEqDiff, Nat.reduceAdd, Nat.reduceMul, Nat.reduceSub, ↓reduceIte, eq_self, cellAt_sts wn, cellAt_sts wa', c0, c1, c3, c4, cn, ce, na, ne.1, nea, nb1]

theorem tickPer (h : H) (a nb eb e n seen told rev : Nat) (hr : PerR h a nb eb e n seen told) (h0 : 0 < e) (h1 : n < e) (h2 : e ≤ 1000000) :
    PushC P (.enter 9 [.ptr a 0, .int .u64 (.ofNat rev)] h) (PostTick (perH h a nb n e rev) a 4 told (perM n e seen)) := by
  have hr' := (perH_rel (rev := rev) hr).1
  have c4 := hr'.c4
  have wr := hr'.wr.1
  have c0 := hr.c0
  refine pushC_of_codeW (fn := Try.f9) (c := bodyC Try.f9) Try.func9 rfl ?_
  show codeW P 9 29 none _ _ _ _ _
  refine codeW_root ?_
  repeat' (first
    | ((with_reducible refine st_seq ?_ ?_); (exact rfl))
    | ((with_reducible refine st_reg ?_ rfl rfl ?_); (exact rfl); (conv => arg 4; whnf); (conv => arg 3; whnf); simp only [B, F, Nat.reduceLT, Nat.reduceLeDiff, Nat.reduceEqDiff, Nat.reduceAdd, Nat.reduceMul, Nat.reduceSub, ↓reduceIte, eq_self, c0])
    | ((with_reducible refine st_drawn ?_ rfl rfl ?_ ?_); (exact rfl); (kernel_rfl); (conv => arg 4; whnf); (conv => arg 3; whnf); simp only [B, F, Nat.reduceLT, Nat.reduceLeDiff, Nat.reduceEqDiff, Nat.reduceAdd, Nat.reduceMul, Nat.reduceSub, ↓reduceIte, eq_self, c0])
    | ((with_reducible refine st_cond ?_ rfl ?_); (exact rfl); (conv => arg 1; arg 2; whnf); simp only [B, F, Nat.reduceLT, Nat.reduceLeDiff, Nat.reduceEqDiff, Nat.reduceAdd, Nat.reduceMul, Nat.reduceSub, ↓reduceIte, eq_self, c0])
    | ((with_reducible refine ifB_split (fun hb => ?_) (fun hb => ?_)) <;> simp only [hb, B, F, Nat.reduceLT, Nat.reduceLeDiff, Nat.reduceEqDiff, Nat.reduceAdd, Nat.reduceMul, Nat.reduceSub, ↓reduceIte, eq_self, c0])
    | ((with_reducible refine gW_split (fun hb => ?_) (fun hb => ?_)) <;> (try rw [Bool.not_true] at hb) <;> (try rw [Bool.not_false] at hb) <;> simp only [hb, B, F, Nat.reduceLT, Nat.reduceLeDiff, Nat.reduceEqDiff, Nat.reduceAdd, Nat.reduceMul, Nat.reduceSub, ↓reduceIte, eq_self, c0])
    | ((with_reducible refine st_block ?_ rfl ?_); (exact rfl); (conv => arg 9; arg 1; whnf))
    | ((with_reducible refine st_skip ?_ ?_); (exact rfl); simp only [B, F, Nat.reduceLT, Nat.reduceLeDiff, Nat.reduceEqDiff, Nat.reduceAdd, Nat.reduceMul, Nat.reduceSub, ↓reduceIte, eq_self, c0])
    | ((with_reducible refine st_exit ?_ rfl ?_); (exact rfl); (conv in exitId _ => whnf); simp only [B, F, Nat.reduceLT, Nat.reduceLeDiff, Nat.reduceEqDiff, Nat.reduceAdd, Nat.reduceMul, Nat.reduceSub, ↓reduceIte, eq_self, c0])
    | ((with_reducible refine st_ret ?_ ?_); (exact rfl); try simp only [B, F, Nat.reduceLT, Nat.reduceLeDiff, Nat.reduceEqDiff, Nat.reduceAdd, Nat.reduceMul, Nat.reduceSub, ↓reduceIte, eq_self, c0])
    | ((with_reducible refine retW_intro rfl ?_); (conv => arg 2; whnf); simp only [B, F, Nat.reduceLT, Nat.reduceLeDiff, Nat.reduceEqDiff, Nat.reduceAdd, Nat.reduceMul, Nat.reduceSub, ↓reduceIte, eq_self, c0]))
  refine ((byPer _ a nb eb e n seen told rev hr h0 h1 h2).call P).mono P ?_
  rintro v h' ⟨rfl, rfl⟩
  generalize perH h a nb n e rev = h' at *
  generalize perM n e seen = m
  simp only [B, F, Nat.reduceLT, Nat.reduceLeDiff, Nat.reduceEqDiff, Nat.reduceAdd, Nat.reduceMul, Nat.reduceSub, ↓reduceIte, eq_self, c4]
  repeat' (first
    | ((with_reducible refine st_seq ?_ ?_); (exact rfl))
    | ((with_reducible refine st_reg ?_ rfl rfl ?_); (exact rfl); (conv => arg 4; whnf); (conv => arg 3; whnf); simp only [B, F, Nat.reduceLT, Nat.reduceLeDiff, Nat.reduceEqDiff, Nat.reduceAdd, Nat.reduceMul, Nat.reduceSub, ↓reduceIte, eq_self, c4, put_sts, wr])
    | ((with_reducible refine st_drawn ?_ rfl rfl ?_ ?_); (exact rfl); (kernel_rfl); (conv => arg 4; whnf); (conv => arg 3; whnf); simp only [B, F, Nat.reduceLT, Nat.reduceLeDiff, Nat.reduceEqDiff, Nat.reduceAdd, Nat.reduceMul, Nat.reduceSub, ↓reduceIte, eq_self, c4, put_sts, wr])
    | ((with_reducible refine st_cond ?_ rfl ?_); (exact rfl); (conv => arg 1; arg 2; whnf); simp only [B, F, Nat.reduceLT, Nat.reduceLeDiff, Nat.reduceEqDiff, Nat.reduceAdd, Nat.reduceMul, Nat.reduceSub, ↓reduceIte, eq_self, c4, put_sts, wr])
    | ((with_reducible refine ifB_split (fun hb => ?_) (fun hb => ?_)) <;> simp only [hb, B, F, Nat.reduceLT, Nat.reduceLeDiff, Nat.reduceEqDiff, Nat.reduceAdd, Nat.reduceMul, Nat.reduceSub, ↓reduceIte, eq_self, c4, put_sts, wr])
    | ((with_reducible refine gW_split (fun hb => ?_) (fun hb => ?_)) <;> (try rw [Bool.not_true] at hb) <;> (try rw [Bool.not_false] at hb) <;> simp only [hb, B, F, Nat.reduceLT, Nat.reduceLeDiff, Nat.reduceEqDiff, Nat.reduceAdd, Nat.reduceMul, Nat.reduceSub, ↓reduceIte, eq_self, c4, put_sts, wr])
    | ((with_reducible refine st_block ?_ rfl ?_); (exact rfl); (conv => arg 9; arg 1; whnf))
    | ((with_reducible refine st_skip ?_ ?_); (exact rfl); simp only [B, F, Nat.reduceLT, Nat.reduceLeDiff, Nat.reduceEqDiff, Nat.reduceAdd, Nat.reduceMul, Nat.reduceSub, ↓reduceIte, eq_self, c4, put_sts, wr])
    | ((with_reducible refine st_exit ?_ rfl ?_); (exact rfl); (conv in exitId _ => whnf); simp only [B, F, Nat.reduceLT, Nat.reduceLeDiff, Nat.reduceEqDiff, Nat.reduceAdd, Nat.reduceMul, Nat.reduceSub, ↓reduceIte, eq_self, c4, put_sts, wr])
    | ((with_reducible refine st_ret ?_ ?_); (exact rfl); try simp only [B, F, Nat.reduceLT, Nat.reduceLeDiff, Nat.reduceEqDiff, Nat.reduceAdd, Nat.reduceMul, Nat.reduceSub, ↓reduceIte, eq_self, c4, put_sts, wr])
    | ((with_reducible refine retW_intro rfl ?_); (conv => arg 2; whnf); simp only [B, F, Nat.reduceLT, Nat.reduceLeDiff, Nat.reduceEqDiff, Nat.reduceAdd, Nat.reduceMul, Nat.reduceSub, ↓reduceIte, eq_self, c4, put_sts, wr]))
  all_goals first | exact post_low (by assumption) | exact post_told (by assumption) | exact post_new (by assumption) (by assumption)
end
end Go.Proofs.Ytiegeehjbmogpaa.W


/-
  gens: GensPlays: same, done.
  gens: GensPlays, walked.
  'GensPlays' returns true, whatever the input; each argument reads as it did. No condition.
-/
import Derived.Test.YtlkngpckibidlaaAxI
import Derived.Test.YtlkngpckibidlaaG2
import Derived.Test.YtlkngpckibidlaaRows
set_option linter.unusedSimpArgs false
set_option linter.unusedVariables false
namespace Go.Proofs.Ytlkngpckibidlaa.W
open Go Go.AX
noncomputable section
set_option maxRecDepth 100000
theorem atK_all {L : List Gn} {A : List Ch} (ha : all L = A) (m : Nat) : atK L m = atA A m ∧ atB L m = atT A m := by
  rw [atK_isK, atB_isK, ha]; exact ⟨rfl, rfl⟩
set_option maxHeartbeats 1000000 in
theorem sameC (h : H) (v1 v2 : AV) (L : List Gn) (A : List Ch) (m : Nat) (hg : GensAt h v1 L) (hr : RefAt h v2 A) (ha : all L = A) (hw : WF L) (hz : A.length ≤ 900) : PushC P (.enter 23 [v1, v2, n64 m] h) (Says h (.bool true)) := by
  have hzL : Sz 1000 L := (wf_sz hw).le (by rw [ha]; omega)
  obtain ⟨x, rfl, ho1, hc1⟩ := hg.val
  have hr0 := hr
  obtain ⟨s, rfl, hs, hn⟩ := hr
  have hso := SliceAt.one hs
  have hlen := hs.len (P := P) u50
  unfold n64
  refine pushC_of_codeW (fn := Try.f23) (c := bodyC Try.f23) Try.func23 rfl ?_
  show codeW P 23 74 none _ _ _ _ _
  refine codeW_root ?_
  repeat' (first | ((with_reducible show codeW _ _ _ _ (codeI _ _) _ _ _ _); first | (apply st_seq; exact rfl) | (refine st_reg ?_ rfl rfl ?_; exact rfl; (conv => arg 4; whnf); (conv => arg 3; whnf)) | (refine st_dp ord23_0 ?_ rfl rfl ?_; exact rfl; (conv => arg 4; whnf); (conv => arg 3; whnf)) | (refine st_cond ?_ rfl ?_; exact rfl; (conv => arg 1; arg 2; whnf)) | (refine st_block ?_ rfl ?_; exact rfl; (conv => arg 9; arg 1; whnf)) | (apply st_skip; exact rfl) | (refine st_exit ?_ rfl ?_; exact rfl; (conv in exitId _ => whnf)) | (apply st_ret; exact rfl)) | ((with_reducible refine retW_intro rfl ?_); (conv => arg 2; whnf)) | ((with_reducible first | refine iB (fun hb => ?_) (fun hb => ?_) | refine gWt (fun hb => ?_) (fun hb => ?_) | refine gWf (fun hb => ?_) (fun hb => ?_) | refine gXt (fun hb => ?_) (fun hb => ?_) | refine gXf (fun hb => ?_) (fun hb => ?_)) <;> (try simp only [hb])) | ((with_reducible show drawP _ _ _ _ _ _ _ _ _); first | (apply kP_rd; exact rfl; exact rfl) | (apply kP_rg; exact rfl; exact rfl; exact rfl) | (apply kP_cv; exact rfl; exact rfl; kernel_rfl) | (apply kP_al; exact rfl; exact rfl; exact rfl) | (apply kP_ex; exact rfl; exact rfl; kernel_rfl; exact rfl) | (apply kP_eg; exact rfl; exact rfl; kernel_rfl; exact rfl) | (apply kP_nl)) | ((with_reducible show eOk _ _ _ _ _ _); first | (exact eok_nil) | (apply ke_rd; exact rfl) | (apply ke_rg; exact rfl; exact rfl) | (apply ke_cv; exact rfl; kernel_rfl) | (apply ke_al; exact rfl; exact rfl)) | ((with_reducible apply freshIs_new); kernel_rfl) | (simp only [B, xB, F, Nat.reduceLT, Nat.reduceLeDiff, Nat.reduceEqDiff, Nat.reduceAdd, Nat.reduceMul, Nat.reduceSub, ↓reduceIte, eq_self, ho1, hso]))
  obtain ⟨h1, h1e⟩ : ∃ h1, h1 = (h.newCells 26 [x]).newCells 52 [s] := ⟨_, rfl⟩
  have o1 : Only h h1 [] := by rw [h1e]; exact ((Only.refl _ _).new _ _).new _ _
  have x1 : h1.nx = h.nx + 2 := by rw [h1e]; rfl
  have k0 : cellAt h1 h.nx 0 = some x := by rw [h1e]; simp only [B, xB, F, Nat.reduceLT, Nat.reduceLeDiff, Nat.reduceEqDiff, Nat.reduceAdd, Nat.reduceMul, Nat.reduceSub, ↓reduceIte, eq_self]
  have k1 : cellAt h1 (h.nx + 1) 0 = some s := by rw [h1e]; simp only [B, xB, F, Nat.reduceLT, Nat.reduceLeDiff, Nat.reduceEqDiff, Nat.reduceAdd, Nat.reduceMul, Nat.reduceSub, ↓reduceIte, eq_self]
  rw [← h1e]
  have hg := hg.keep o1
  have hr := hr0.keep o1
  refine ((atC h1 _ L m hg hzL).call P).mono P ?_
  rintro v h2 ⟨rfl, o2⟩
  rw [(atK_all ha m).1, (atK_all ha m).2]
  have xo2 := o2.1
  first | replace k0 := kcell k0 o2 (by omega) (by simp) | replace k0 := kwr k0 o2 (by omega) (by simp)
  first | replace k1 := kcell k1 o2 (by omega) (by simp) | replace k1 := kwr k1 o2 (by omega) (by simp)
  replace hg := hg.keep o2
  replace hr := hr.keep o2
  obtain ⟨c, hc⟩ : ∃ c, c = atA A m := ⟨_, rfl⟩
  obtain ⟨t, ht⟩ : ∃ t, t = atT A m := ⟨_, rfl⟩
  rw [← hc, ← ht]
  have ec : rvA c.rev = .agg [.int .u64 (.ofNat c.rev.1), .int .u64 (.ofNat c.rev.2)] := rfl
  rw [ec]
  unfold n64
  obtain ⟨h3, h3e⟩ : ∃ h3, h3 = (h2.newCells 35 [.int .u64 (.ofNat 0), .int .u64 (.ofNat 0)]).sts h2.nx 0 [.int .u64 (.ofNat c.rev.1), .int .u64 (.ofNat c.rev.2)] := ⟨_, rfl⟩
  have o3 : Only h2 h3 [] := by rw [h3e]; exact ((Only.refl _ _).new _ _).sts (.inr (Nat.le_refl _))
  have x3 : h3.nx = h2.nx + 1 := by rw [h3e, nx_sts, nx_new]
  have a0 : cellAt h3 h2.nx 0 = some (.int .u64 (.ofNat c.rev.1)) := by rw [h3e]; simp only [B, xB, F, Nat.reduceLT, Nat.reduceLeDiff, Nat.reduceEqDiff, Nat.reduceAdd, Nat.reduceMul, Nat.reduceSub, ↓reduceIte, eq_self]
  have a1 : cellAt h3 h2.nx 1 = some (.int .u64 (.ofNat c.rev.2)) := by rw [h3e]; simp only [B, xB, F, Nat.reduceLT, Nat.reduceLeDiff, Nat.reduceEqDiff, Nat.reduceAdd, Nat.reduceMul, Nat.reduceSub, ↓reduceIte, eq_self]
  have xo3 := o3.1
  first | replace k0 := kcell k0 o3 (by omega) (by simp) | replace k0 := kwr k0 o3 (by omega) (by simp)
  first | replace k1 := kcell k1 o3 (by omega) (by simp) | replace k1 := kwr k1 o3 (by omega) (by simp)
  replace hg := hg.keep o3
  replace hr := hr.keep o3
  repeat' (first | ((with_reducible show codeW _ _ _ _ (codeI _ _) _ _ _ _); first | (apply st_seq; exact rfl) | (refine st_reg ?_ rfl rfl ?_; exact rfl; (conv => arg 4; whnf); (conv => arg 3; whnf)) | (refine st_dp ord23_0 ?_ rfl rfl ?_; exact rfl; (conv => arg 4; whnf); (conv => arg 3; whnf)) | (refine st_cond ?_ rfl ?_; exact rfl; (conv => arg 1; arg 2; whnf)) | (refine st_block ?_ rfl ?_; exact rfl; (conv => arg 9; arg 1; whnf)) | (apply st_skip; exact rfl) | (refine st_exit ?_ rfl ?_; exact rfl; (conv in exitId _ => whnf)) | (apply st_ret; exact rfl)) | ((with_reducible refine retW_intro rfl ?_); (conv => arg 2; whnf)) | ((with_reducible first | refine iB (fun hb => ?_) (fun hb => ?_) | refine gWt (fun hb => ?_) (fun hb => ?_) | refine gWf (fun hb => ?_) (fun hb => ?_) | refine gXt (fun hb => ?_) (fun hb => ?_) | refine gXf (fun hb => ?_) (fun hb => ?_)) <;> (try simp only [hb])) | ((with_reducible show drawP _ _ _ _ _ _ _ _ _); first | (apply kP_rd; exact rfl; exact rfl) | (apply kP_rg; exact rfl; exact rfl; exact rfl) | (apply kP_cv; exact rfl; exact rfl; kernel_rfl) | (apply kP_al; exact rfl; exact rfl; exact rfl) | (apply kP_ex; exact rfl; exact rfl; kernel_rfl; exact rfl) | (apply kP_eg; exact rfl; exact rfl; kernel_rfl; exact rfl) | (apply kP_nl)) | ((with_reducible show eOk _ _ _ _ _ _); first | (exact eok_nil) | (apply ke_rd; exact rfl) | (apply ke_rg; exact rfl; exact rfl) | (apply ke_cv; exact rfl; kernel_rfl) | (apply ke_al; exact rfl; exact rfl)) | ((with_reducible apply freshIs_new); kernel_rfl) | (simp only [B, xB, F, Nat.reduceLT, Nat.reduceLeDiff, Nat.reduceEqDiff, Nat.reduceAdd, Nat.reduceMul, Nat.reduceSub, ↓reduceIte, eq_self, ← h3e, k0, k1]))
  refine ((rAtC h3 _ A m hr (by omega)).call P).mono P ?_
  rintro v h4 ⟨rfl, o4⟩
  rw [← hc, ← ht, ec]
  unfold n64
  have xo4 := o4.1
  first | replace k0 := kcell k0 o4 (by omega) (by simp) | replace k0 := kwr k0 o4 (by omega) (by simp)
  first | replace k1 := kcell k1 o4 (by omega) (by simp) | replace k1 := kwr k1 o4 (by omega) (by simp)
  first | replace a0 := kcell a0 o4 (by omega) (by simp) | replace a0 := kwr a0 o4 (by omega) (by simp)
  first | replace a1 := kcell a1 o4 (by omega) (by simp) | replace a1 := kwr a1 o4 (by omega) (by simp)
  replace hg := hg.keep o4
  replace hr := hr.keep o4
  obtain ⟨h5, h5e⟩ : ∃ h5, h5 = (h4.newCells 35 [.int .u64 (.ofNat 0), .int .u64 (.ofNat 0)]).sts h4.nx 0 [.int .u64 (.ofNat c.rev.1), .int .u64 (.ofNat c.rev.2)] := ⟨_, rfl⟩
  have o5 : Only h4 h5 [] := by rw [h5e]; exact ((Only.refl _ _).new _ _).sts (.inr (Nat.le_refl _))
  have x5 : h5.nx = h4.nx + 1 := by rw [h5e, nx_sts, nx_new]
  have b0 : cellAt h5 h4.nx 0 = some (.int .u64 (.ofNat c.rev.1)) := by rw [h5e]; simp only [B, xB, F, Nat.reduceLT, Nat.reduceLeDiff, Nat.reduceEqDiff, Nat.reduceAdd, Nat.reduceMul, Nat.reduceSub, ↓reduceIte, eq_self]
  have b1 : cellAt h5 h4.nx 1 = some (.int .u64 (.ofNat c.rev.2)) := by rw [h5e]; simp only [B, xB, F, Nat.reduceLT, Nat.reduceLeDiff, Nat.reduceEqDiff, Nat.reduceAdd, Nat.reduceMul, Nat.reduceSub, ↓reduceIte, eq_self]
  have xo5 := o5.1
  first | replace k0 := kcell k0 o5 (by omega) (by simp) | replace k0 := kwr k0 o5 (by omega) (by simp)
  first | replace k1 := kcell k1 o5 (by omega) (by simp) | replace k1 := kwr k1 o5 (by omega) (by simp)
  first | replace a0 := kcell a0 o5 (by omega) (by simp) | replace a0 := kwr a0 o5 (by omega) (by simp)
  first | replace a1 := kcell a1 o5 (by omega) (by simp) | replace a1 := kwr a1 o5 (by omega) (by simp)
  replace hg := hg.keep o5
  replace hr := hr.keep o5
  have e1 : ∀ n : Nat, decide (n = n) = true := fun n => decide_eq_true rfl
  have e2 : (t == t) = true := by cases t <;> rfl
  have slen : ∀ m, (sinceL m A).length ≤ 4000000000000 := fun m => by have := since_len m A; omega
  repeat' (first | ((with_reducible show codeW _ _ _ _ (codeI _ _) _ _ _ _); first | (apply st_seq; exact rfl) | (refine st_reg ?_ rfl rfl ?_; exact rfl; (conv => arg 4; whnf); (conv => arg 3; whnf)) | (refine st_dp ord23_0 ?_ rfl rfl ?_; exact rfl; (conv => arg 4; whnf); (conv => arg 3; whnf)) | (refine st_cond ?_ rfl ?_; exact rfl; (conv => arg 1; arg 2; whnf)) | (refine st_block ?_ rfl ?_; exact rfl; (conv => arg 9; arg 1; whnf)) | (apply st_skip; exact rfl) | (refine st_exit ?_ rfl ?_; exact rfl; (conv in exitId _ => whnf)) | (apply st_ret; exact rfl)) | ((with_reducible refine retW_intro rfl ?_); (conv => arg 2; whnf)) | ((with_reducible first | refine iB (fun hb => ?_) (fun hb => ?_) | refine gWt (fun hb => ?_) (fun hb => ?_) | refine gWf (fun hb => ?_) (fun hb => ?_) | refine gXt (fun hb => ?_) (fun hb => ?_) | refine gXf (fun hb => ?_) (fun hb => ?_)) <;> (try simp only [hb])) | ((with_reducible show drawP _ _ _ _ _ _ _ _ _); first | (apply kP_rd; exact rfl; exact rfl) | (apply kP_rg; exact rfl; exact rfl; exact rfl) | (apply kP_cv; exact rfl; exact rfl; kernel_rfl) | (apply kP_al; exact rfl; exact rfl; exact rfl) | (apply kP_ex; exact rfl; exact rfl; kernel_rfl; exact rfl) | (apply kP_eg; exact rfl; exact rfl; kernel_rfl; exact rfl) | (apply kP_nl)) | ((with_reducible show eOk _ _ _ _ _ _); first | (exact eok_nil) | (apply ke_rd; exact rfl) | (apply ke_rg; exact rfl; exact rfl) | (apply ke_cv; exact rfl; kernel_rfl) | (apply ke_al; exact rfl; exact rfl)) | ((with_reducible apply freshIs_new); kernel_rfl) | (simp only [B, xB, F, Nat.reduceLT, Nat.reduceLeDiff, Nat.reduceEqDiff, Nat.reduceAdd, Nat.reduceMul, Nat.reduceSub, ↓reduceIte, eq_self, ← h5e, k0, k1, a0, a1, b0, b1, e1, e2, decide_true, Bool.and_true, beq_self_eq_true]))
  refine ((sinceC h5 _ L m hg hzL).call P).mono P ?_
  rintro q1 h6 ⟨o6, gq1⟩
  rw [ha] at gq1
  have xo6 := o6.1
  first | replace k0 := kcell k0 o6 (by omega) (by simp) | replace k0 := kwr k0 o6 (by omega) (by simp)
  first | replace k1 := kcell k1 o6 (by omega) (by simp) | replace k1 := kwr k1 o6 (by omega) (by simp)
  first | replace a0 := kcell a0 o6 (by omega) (by simp) | replace a0 := kwr a0 o6 (by omega) (by simp)
  first | replace a1 := kcell a1 o6 (by omega) (by simp) | replace a1 := kwr a1 o6 (by omega) (by simp)
  first | replace b0 := kcell b0 o6 (by omega) (by simp) | replace b0 := kwr b0 o6 (by omega) (by simp)
  first | replace b1 := kcell b1 o6 (by omega) (by simp) | replace b1 := kwr b1 o6 (by omega) (by simp)
  replace hg := hg.keep o6
  replace hr := hr.keep o6
  repeat' (first | ((with_reducible show codeW _ _ _ _ (codeI _ _) _ _ _ _); first | (apply st_seq; exact rfl) | (refine st_reg ?_ rfl rfl ?_; exact rfl; (conv => arg 4; whnf); (conv => arg 3; whnf)) | (refine st_dp ord23_0 ?_ rfl rfl ?_; exact rfl; (conv => arg 4; whnf); (conv => arg 3; whnf)) | (refine st_cond ?_ rfl ?_; exact rfl; (conv => arg 1; arg 2; whnf)) | (refine st_block ?_ rfl ?_; exact rfl; (conv => arg 9; arg 1; whnf)) | (apply st_skip; exact rfl) | (refine st_exit ?_ rfl ?_; exact rfl; (conv in exitId _ => whnf)) | (apply st_ret; exact rfl)) | ((with_reducible refine retW_intro rfl ?_); (conv => arg 2; whnf)) | ((with_reducible first | refine iB (fun hb => ?_) (fun hb => ?_) | refine gWt (fun hb => ?_) (fun hb => ?_) | refine gWf (fun hb => ?_) (fun hb => ?_) | refine gXt (fun hb => ?_) (fun hb => ?_) | refine gXf (fun hb => ?_) (fun hb => ?_)) <;> (try simp only [hb])) | ((with_reducible show drawP _ _ _ _ _ _ _ _ _); first | (apply kP_rd; exact rfl; exact rfl) | (apply kP_rg; exact rfl; exact rfl; exact rfl) | (apply kP_cv; exact rfl; exact rfl; kernel_rfl) | (apply kP_al; exact rfl; exact rfl; exact rfl) | (apply kP_ex; exact rfl; exact rfl; kernel_rfl; exact rfl) | (apply kP_eg; exact rfl; exact rfl; kernel_rfl; exact rfl) | (apply kP_nl)) | ((with_reducible show eOk _ _ _ _ _ _); first | (exact eok_nil) | (apply ke_rd; exact rfl) | (apply ke_rg; exact rfl; exact rfl) | (apply ke_cv; exact rfl; kernel_rfl) | (apply ke_al; exact rfl; exact rfl)) | ((with_reducible apply freshIs_new); kernel_rfl) | (simp only [B, xB, F, Nat.reduceLT, Nat.reduceLeDiff, Nat.reduceEqDiff, Nat.reduceAdd, Nat.reduceMul, Nat.reduceSub, ↓reduceIte, eq_self, k0, k1, a0, a1, b0, b1, e1, e2, decide_true, Bool.and_true, beq_self_eq_true]))
  refine ((rSinceC h6 _ A m hr (by omega)).call P).mono P ?_
  rintro q2 h7 ⟨o7, gq2⟩
  have xo7 := o7.1
  first | replace k0 := kcell k0 o7 (by omega) (by simp) | replace k0 := kwr k0 o7 (by omega) (by simp)
  first | replace k1 := kcell k1 o7 (by omega) (by simp) | replace k1 := kwr k1 o7 (by omega) (by simp)
  first | replace a0 := kcell a0 o7 (by omega) (by simp) | replace a0 := kwr a0 o7 (by omega) (by simp)
  first | replace a1 := kcell a1 o7 (by omega) (by simp) | replace a1 := kwr a1 o7 (by omega) (by simp)
  first | replace b0 := kcell b0 o7 (by omega) (by simp) | replace b0 := kwr b0 o7 (by omega) (by simp)
  first | replace b1 := kcell b1 o7 (by omega) (by simp) | replace b1 := kwr b1 o7 (by omega) (by simp)
  replace hg := hg.keep o7
  replace hr := hr.keep o7
  repeat' (first | ((with_reducible show codeW _ _ _ _ (codeI _ _) _ _ _ _); first | (apply st_seq; exact rfl) | (refine st_reg ?_ rfl rfl ?_; exact rfl; (conv => arg 4; whnf); (conv => arg 3; whnf)) | (refine st_dp ord23_0 ?_ rfl rfl ?_; exact rfl; (conv => arg 4; whnf); (conv => arg 3; whnf)) | (refine st_cond ?_ rfl ?_; exact rfl; (conv => arg 1; arg 2; whnf)) | (refine st_block ?_ rfl ?_; exact rfl; (conv => arg 9; arg 1; whnf)) | (apply st_skip; exact rfl) | (refine st_exit ?_ rfl ?_; exact rfl; (conv in exitId _ => whnf)) | (apply st_ret; exact rfl)) | ((with_reducible refine retW_intro rfl ?_); (conv => arg 2; whnf)) | ((with_reducible first | refine iB (fun hb => ?_) (fun hb => ?_) | refine gWt (fun hb => ?_) (fun hb => ?_) | refine gWf (fun hb => ?_) (fun hb => ?_) | refine gXt (fun hb => ?_) (fun hb => ?_) | refine gXf (fun hb => ?_) (fun hb => ?_)) <;> (try simp only [hb])) | ((with_reducible show drawP _ _ _ _ _ _ _ _ _); first | (apply kP_rd; exact rfl; exact rfl) | (apply kP_rg; exact rfl; exact rfl; exact rfl) | (apply kP_cv; exact rfl; exact rfl; kernel_rfl) | (apply kP_al; exact rfl; exact rfl; exact rfl) | (apply kP_ex; exact rfl; exact rfl; kernel_rfl; exact rfl) | (apply kP_eg; exact rfl; exact rfl; kernel_rfl; exact rfl) | (apply kP_nl)) | ((with_reducible show eOk _ _ _ _ _ _); first | (exact eok_nil) | (apply ke_rd; exact rfl) | (apply ke_rg; exact rfl; exact rfl) | (apply ke_cv; exact rfl; kernel_rfl) | (apply ke_al; exact rfl; exact rfl)) | ((with_reducible apply freshIs_new); kernel_rfl) | (simp only [B, xB, F, Nat.reduceLT, Nat.reduceLeDiff, Nat.reduceEqDiff, Nat.reduceAdd, Nat.reduceMul, Nat.reduceSub, ↓reduceIte, eq_self, k0, k1, a0, a1, b0, b1, e1, e2, decide_true, Bool.and_true, beq_self_eq_true]))
  refine ((revsC h7 q1 q2 _ _ (gq1.slice.only o7 (fun _ _ => by simp)) gq2.slice (slen m)).call P).mono P ?_
  rintro v h8 ⟨rfl, o8⟩
  rw [decide_eq_true rfl]
  have xo8 := o8.1
  first | replace k0 := kcell k0 o8 (by omega) (by simp) | replace k0 := kwr k0 o8 (by omega) (by simp)
  first | replace k1 := kcell k1 o8 (by omega) (by simp) | replace k1 := kwr k1 o8 (by omega) (by simp)
  first | replace a0 := kcell a0 o8 (by omega) (by simp) | replace a0 := kwr a0 o8 (by omega) (by simp)
  first | replace a1 := kcell a1 o8 (by omega) (by simp) | replace a1 := kwr a1 o8 (by omega) (by simp)
  first | replace b0 := kcell b0 o8 (by omega) (by simp) | replace b0 := kwr b0 o8 (by omega) (by simp)
  first | replace b1 := kcell b1 o8 (by omega) (by simp) | replace b1 := kwr b1 o8 (by omega) (by simp)
  replace hg := hg.keep o8
  replace hr := hr.keep o8
  repeat' (first | ((with_reducible show codeW _ _ _ _ (codeI _ _) _ _ _ _); first | (apply st_seq; exact rfl) | (refine st_reg ?_ rfl rfl ?_; exact rfl; (conv => arg 4; whnf); (conv => arg 3; whnf)) | (refine st_dp ord23_0 ?_ rfl rfl ?_; exact rfl; (conv => arg 4; whnf); (conv => arg 3; whnf)) | (refine st_cond ?_ rfl ?_; exact rfl; (conv => arg 1; arg 2; whnf)) | (refine st_block ?_ rfl ?_; exact rfl; (conv => arg 9; arg 1; whnf)) | (apply st_skip; exact rfl) | (refine st_exit ?_ rfl ?_; exact rfl; (conv in exitId _ => whnf)) | (apply st_ret; exact rfl)) | ((with_reducible refine retW_intro rfl ?_); (conv => arg 2; whnf)) | ((with_reducible first | refine iB (fun hb => ?_) (fun hb => ?_) | refine gWt (fun hb => ?_) (fun hb => ?_) | refine gWf (fun hb => ?_) (fun hb => ?_) | refine gXt (fun hb => ?_) (fun hb => ?_) | refine gXf (fun hb => ?_) (fun hb => ?_)) <;> (try simp only [hb])) | ((with_reducible show drawP _ _ _ _ _ _ _ _ _); first | (apply kP_rd; exact rfl; exact rfl) | (apply kP_rg; exact rfl; exact rfl; exact rfl) | (apply kP_cv; exact rfl; exact rfl; kernel_rfl) | (apply kP_al; exact rfl; exact rfl; exact rfl) | (apply kP_ex; exact rfl; exact rfl; kernel_rfl; exact rfl) | (apply kP_eg; exact rfl; exact rfl; kernel_rfl; exact rfl) | (apply kP_nl)) | ((with_reducible show eOk _ _ _ _ _ _); first | (exact eok_nil) | (apply ke_rd; exact rfl) | (apply ke_rg; exact rfl; exact rfl) | (apply ke_cv; exact rfl; kernel_rfl) | (apply ke_al; exact rfl; exact rfl)) | ((with_reducible apply freshIs_new); kernel_rfl) | (simp only [B, xB, F, Nat.reduceLT, Nat.reduceLeDiff, Nat.reduceEqDiff, Nat.reduceAdd, Nat.reduceMul, Nat.reduceSub, ↓reduceIte, eq_self, k0, k1, a0, a1, b0, b1, e1, e2, decide_true, Bool.and_true, beq_self_eq_true]))
  refine ((sinceC h8 _ L 0 hg hzL).call P).mono P ?_
  rintro q3 h9 ⟨o9, gq3⟩
  rw [ha] at gq3
  have xo9 := o9.1
  first | replace k0 := kcell k0 o9 (by omega) (by simp) | replace k0 := kwr k0 o9 (by omega) (by simp)
  first | replace k1 := kcell k1 o9 (by omega) (by simp) | replace k1 := kwr k1 o9 (by omega) (by simp)
  first | replace a0 := kcell a0 o9 (by omega) (by simp) | replace a0 := kwr a0 o9 (by omega) (by simp)
  first | replace a1 := kcell a1 o9 (by omega) (by simp) | replace a1 := kwr a1 o9 (by omega) (by simp)
  first | replace b0 := kcell b0 o9 (by omega) (by simp) | replace b0 := kwr b0 o9 (by omega) (by simp)
  first | replace b1 := kcell b1 o9 (by omega) (by simp) | replace b1 := kwr b1 o9 (by omega) (by simp)
  replace hg := hg.keep o9
  replace hr := hr.keep o9
  repeat' (first | ((with_reducible show codeW _ _ _ _ (codeI _ _) _ _ _ _); first | (apply st_seq; exact rfl) | (refine st_reg ?_ rfl rfl ?_; exact rfl; (conv => arg 4; whnf); (conv => arg 3; whnf)) | (refine st_dp ord23_0 ?_ rfl rfl ?_; exact rfl; (conv => arg 4; whnf); (conv => arg 3; whnf)) | (refine st_cond ?_ rfl ?_; exact rfl; (conv => arg 1; arg 2; whnf)) | (refine st_block ?_ rfl ?_; exact rfl; (conv => arg 9; arg 1; whnf)) | (apply st_skip; exact rfl) | (refine st_exit ?_ rfl ?_; exact rfl; (conv in exitId _ => whnf)) | (apply st_ret; exact rfl)) | ((with_reducible refine retW_intro rfl ?_); (conv => arg 2; whnf)) | ((with_reducible first | refine iB (fun hb => ?_) (fun hb => ?_) | refine gWt (fun hb => ?_) (fun hb => ?_) | refine gWf (fun hb => ?_) (fun hb => ?_) | refine gXt (fun hb => ?_) (fun hb => ?_) | refine gXf (fun hb => ?_) (fun hb => ?_)) <;> (try simp only [hb])) | ((with_reducible show drawP _ _ _ _ _ _ _ _ _); first | (apply kP_rd; exact rfl; exact rfl) | (apply kP_rg; exact rfl; exact rfl; exact rfl) | (apply kP_cv; exact rfl; exact rfl; kernel_rfl) | (apply kP_al; exact rfl; exact rfl; exact rfl) | (apply kP_ex; exact rfl; exact rfl; kernel_rfl; exact rfl) | (apply kP_eg; exact rfl; exact rfl; kernel_rfl; exact rfl) | (apply kP_nl)) | ((with_reducible show eOk _ _ _ _ _ _); first | (exact eok_nil) | (apply ke_rd; exact rfl) | (apply ke_rg; exact rfl; exact rfl) | (apply ke_cv; exact rfl; kernel_rfl) | (apply ke_al; exact rfl; exact rfl)) | ((with_reducible apply freshIs_new); kernel_rfl) | (simp only [B, xB, F, Nat.reduceLT, Nat.reduceLeDiff, Nat.reduceEqDiff, Nat.reduceAdd, Nat.reduceMul, Nat.reduceSub, ↓reduceIte, eq_self, k0, k1, a0, a1, b0, b1, e1, e2, decide_true, Bool.and_true, beq_self_eq_true]))
  refine ((rSinceC h9 _ A 0 hr (by omega)).call P).mono P ?_
  rintro q4 hA ⟨oA, gq4⟩
  have xoA := oA.1
  first | replace k0 := kcell k0 oA (by omega) (by simp) | replace k0 := kwr k0 oA (by omega) (by simp)
  first | replace k1 := kcell k1 oA (by omega) (by simp) | replace k1 := kwr k1 oA (by omega) (by simp)
  first | replace a0 := kcell a0 oA (by omega) (by simp) | replace a0 := kwr a0 oA (by omega) (by simp)
  first | replace a1 := kcell a1 oA (by omega) (by simp) | replace a1 := kwr a1 oA (by omega) (by simp)
  first | replace b0 := kcell b0 oA (by omega) (by simp) | replace b0 := kwr b0 oA (by omega) (by simp)
  first | replace b1 := kcell b1 oA (by omega) (by simp) | replace b1 := kwr b1 oA (by omega) (by simp)
  replace hg := hg.keep oA
  replace hr := hr.keep oA
  repeat' (first | ((with_reducible show codeW _ _ _ _ (codeI _ _) _ _ _ _); first | (apply st_seq; exact rfl) | (refine st_reg ?_ rfl rfl ?_; exact rfl; (conv => arg 4; whnf); (conv => arg 3; whnf)) | (refine st_dp ord23_0 ?_ rfl rfl ?_; exact rfl; (conv => arg 4; whnf); (conv => arg 3; whnf)) | (refine st_cond ?_ rfl ?_; exact rfl; (conv => arg 1; arg 2; whnf)) | (refine st_block ?_ rfl ?_; exact rfl; (conv => arg 9; arg 1; whnf)) | (apply st_skip; exact rfl) | (refine st_exit ?_ rfl ?_; exact rfl; (conv in exitId _ => whnf)) | (apply st_ret; exact rfl)) | ((with_reducible refine retW_intro rfl ?_); (conv => arg 2; whnf)) | ((with_reducible first | refine iB (fun hb => ?_) (fun hb => ?_) | refine gWt (fun hb => ?_) (fun hb => ?_) | refine gWf (fun hb => ?_) (fun hb => ?_) | refine gXt (fun hb => ?_) (fun hb => ?_) | refine gXf (fun hb => ?_) (fun hb => ?_)) <;> (try simp only [hb])) | ((with_reducible show drawP _ _ _ _ _ _ _ _ _); first | (apply kP_rd; exact rfl; exact rfl) | (apply kP_rg; exact rfl; exact rfl; exact rfl) | (apply kP_cv; exact rfl; exact rfl; kernel_rfl) | (apply kP_al; exact rfl; exact rfl; exact rfl) | (apply kP_ex; exact rfl; exact rfl; kernel_rfl; exact rfl) | (apply kP_eg; exact rfl; exact rfl; kernel_rfl; exact rfl) | (apply kP_nl)) | ((with_reducible show eOk _ _ _ _ _ _); first | (exact eok_nil) | (apply ke_rd; exact rfl) | (apply ke_rg; exact rfl; exact rfl) | (apply ke_cv; exact rfl; kernel_rfl) | (apply ke_al; exact rfl; exact rfl)) | ((with_reducible apply freshIs_new); kernel_rfl) | (simp only [B, xB, F, Nat.reduceLT, Nat.reduceLeDiff, Nat.reduceEqDiff, Nat.reduceAdd, Nat.reduceMul, Nat.reduceSub, ↓reduceIte, eq_self, k0, k1, a0, a1, b0, b1, e1, e2, decide_true, Bool.and_true, beq_self_eq_true]))
  refine ((revsC hA q3 q4 _ _ (gq3.slice.only oA (fun _ _ => by simp)) gq4.slice (slen 0)).call P).mono P ?_
  rintro v hB ⟨rfl, oB⟩
  rw [decide_eq_true rfl]
  have xoB := oB.1
  first | replace k0 := kcell k0 oB (by omega) (by simp) | replace k0 := kwr k0 oB (by omega) (by simp)
  first | replace k1 := kcell k1 oB (by omega) (by simp) | replace k1 := kwr k1 oB (by omega) (by simp)
  first | replace a0 := kcell a0 oB (by omega) (by simp) | replace a0 := kwr a0 oB (by omega) (by simp)
  first | replace a1 := kcell a1 oB (by omega) (by simp) | replace a1 := kwr a1 oB (by omega) (by simp)
  first | replace b0 := kcell b0 oB (by omega) (by simp) | replace b0 := kwr b0 oB (by omega) (by simp)
  first | replace b1 := kcell b1 oB (by omega) (by simp) | replace b1 := kwr b1 oB (by omega) (by simp)
  replace hg := hg.keep oB
  replace hr := hr.keep oB
  repeat' (first | ((with_reducible show codeW _ _ _ _ (codeI _ _) _ _ _ _); first | (apply st_seq; exact rfl) | (refine st_reg ?_ rfl rfl ?_; exact rfl; (conv => arg 4; whnf); (conv => arg 3; whnf)) | (refine st_dp ord23_0 ?_ rfl rfl ?_; exact rfl; (conv => arg 4; whnf); (conv => arg 3; whnf)) | (refine st_cond ?_ rfl ?_; exact rfl; (conv => arg 1; arg 2; whnf)) | (refine st_block ?_ rfl ?_; exact rfl; (conv => arg 9; arg 1; whnf)) | (apply st_skip; exact rfl) | (refine st_exit ?_ rfl ?_; exact rfl; (conv in exitId _ => whnf)) | (apply st_ret; exact rfl)) | ((with_reducible refine retW_intro rfl ?_); (conv => arg 2; whnf)) | ((with_reducible first | refine iB (fun hb => ?_) (fun hb => ?_) | refine gWt (fun hb => ?_) (fun hb => ?_) | refine gWf (fun hb => ?_) (fun hb => ?_) | refine gXt (fun hb => ?_) (fun hb => ?_) | refine gXf (fun hb => ?_) (fun hb => ?_)) <;> (try simp only [hb])) | ((with_reducible show drawP _ _ _ _ _ _ _ _ _); first | (apply kP_rd; exact rfl; exact rfl) | (apply kP_rg; exact rfl; exact rfl; exact rfl) | (apply kP_cv; exact rfl; exact rfl; kernel_rfl) | (apply kP_al; exact rfl; exact rfl; exact rfl) | (apply kP_ex; exact rfl; exact rfl; kernel_rfl; exact rfl) | (apply kP_eg; exact rfl; exact rfl; kernel_rfl; exact rfl) | (apply kP_nl)) | ((with_reducible show eOk _ _ _ _ _ _); first | (exact eok_nil) | (apply ke_rd; exact rfl) | (apply ke_rg; exact rfl; exact rfl) | (apply ke_cv; exact rfl; kernel_rfl) | (apply ke_al; exact rfl; exact rfl)) | ((with_reducible apply freshIs_new); kernel_rfl) | (simp only [B, xB, F, Nat.reduceLT, Nat.reduceLeDiff, Nat.reduceEqDiff, Nat.reduceAdd, Nat.reduceMul, Nat.reduceSub, ↓reduceIte, eq_self, hlen, k0, k1, a0, a1, b0, b1, e1, e2, decide_true, Bool.and_true, beq_self_eq_true]))
  refine ((emptyC hB _ L hg hzL).call P).mono P ?_
  rintro v hC ⟨rfl, oC⟩
  have hem : L.isEmpty = decide (A.length = 0) := by rw [empty_all hw, ha]; cases A <;> simp
  rw [hem]
  have xoC := oC.1
  first | replace k0 := kcell k0 oC (by omega) (by simp) | replace k0 := kwr k0 oC (by omega) (by simp)
  first | replace k1 := kcell k1 oC (by omega) (by simp) | replace k1 := kwr k1 oC (by omega) (by simp)
  first | replace a0 := kcell a0 oC (by omega) (by simp) | replace a0 := kwr a0 oC (by omega) (by simp)
  first | replace a1 := kcell a1 oC (by omega) (by simp) | replace a1 := kwr a1 oC (by omega) (by simp)
  first | replace b0 := kcell b0 oC (by omega) (by simp) | replace b0 := kwr b0 oC (by omega) (by simp)
  first | replace b1 := kcell b1 oC (by omega) (by simp) | replace b1 := kwr b1 oC (by omega) (by simp)
  replace hg := hg.keep oC
  replace hr := hr.keep oC
  have e3 : (decide (A.length = 0) == decide (A.length = 0)) = true := beq_self_eq_true _
  repeat' (first | ((with_reducible show codeW _ _ _ _ (codeI _ _) _ _ _ _); first | (apply st_seq; exact rfl) | (refine st_reg ?_ rfl rfl ?_; exact rfl; (conv => arg 4; whnf); (conv => arg 3; whnf)) | (refine st_dp ord23_0 ?_ rfl rfl ?_; exact rfl; (conv => arg 4; whnf); (conv => arg 3; whnf)) | (refine st_cond ?_ rfl ?_; exact rfl; (conv => arg 1; arg 2; whnf)) | (refine st_block ?_ rfl ?_; exact rfl; (conv => arg 9; arg 1; whnf)) | (apply st_skip; exact rfl) | (refine st_exit ?_ rfl ?_; exact rfl; (conv in exitId _ => whnf)) | (apply st_ret; exact rfl)) | ((with_reducible refine retW_intro rfl ?_); (conv => arg 2; whnf)) | ((with_reducible first | refine iB (fun hb => ?_) (fun hb => ?_) | refine gWt (fun hb => ?_) (fun hb => ?_) | refine gWf (fun hb => ?_) (fun hb => ?_) | refine gXt (fun hb => ?_) (fun hb => ?_) | refine gXf (fun hb => ?_) (fun hb => ?_)) <;> (try simp only [hb])) | ((with_reducible show drawP _ _ _ _ _ _ _ _ _); first | (apply kP_rd; exact rfl; exact rfl) | (apply kP_rg; exact rfl; exact rfl; exact rfl) | (apply kP_cv; exact rfl; exact rfl; kernel_rfl) | (apply kP_al; exact rfl; exact rfl; exact rfl) | (apply kP_ex; exact rfl; exact rfl; kernel_rfl; exact rfl) | (apply kP_eg; exact rfl; exact rfl; kernel_rfl; exact rfl) | (apply kP_nl)) | ((with_reducible show eOk _ _ _ _ _ _); first | (exact eok_nil) | (apply ke_rd; exact rfl) | (apply ke_rg; exact rfl; exact rfl) | (apply ke_cv; exact rfl; kernel_rfl) | (apply ke_al; exact rfl; exact rfl)) | ((with_reducible apply freshIs_new); kernel_rfl) | (simp only [B, xB, F, Nat.reduceLT, Nat.reduceLeDiff, Nat.reduceEqDiff, Nat.reduceAdd, Nat.reduceMul, Nat.reduceSub, ↓reduceIte, eq_self, k0, k1, a0, a1, b0, b1, e1, e2, e3, hlen, decide_true, Bool.and_true]))
  exact ⟨rfl, (((((((((((o1.t o2).t o3).t o4).t o5).t o6).t o7).t o8).t o9).t oA).t oB).t oC)⟩
theorem all_putP {L : List Gn} {A : List Ch} (hw : WF L) (ha : all L = A) (r : Rv) : all (putP L r) = putA A r ∧ putE L r = putAE A r ∧ WF (putP L r) := by
  subst ha
  unfold putP putA putE putAE
  rw [fits_all]
  cases fitA (all L) r with
  | true => exact ⟨all_putL hw _ _ _, rfl, wf_put hw _ _ _⟩
  | false => exact ⟨rfl, rfl, hw⟩
theorem all_tombP {L : List Gn} {A : List Ch} (hw : WF L) (ha : all L = A) (r : Rv) : all (tombP L r) = tombA A r ∧ tombE L r = tombAE A r ∧ WF (tombP L r) := by
  subst ha
  unfold tombP tombA tombE tombAE
  rw [fits_all, opn_all hw]
  cases fitA (all L) r with
  | true =>
    cases ho : opnA (all L) with
    | true => exact ⟨all_tombL hw (by rw [opn_all hw]; exact ho) _, rfl, wf_tomb hw _⟩
    | false => exact ⟨rfl, rfl, hw⟩
  | false => exact ⟨rfl, rfl, hw⟩
theorem all_restP {L : List Gn} {A : List Ch} (hw : WF L) (ha : all L = A) (r : Rv) (made nth : Nat) : all (restP L r made nth) = restAP A r made nth ∧ restE L r made nth = restAE A r made nth ∧ WF (restP L r made nth) := by
  subst ha
  unfold restP restAP restE restAE
  rw [rest_all L hw]
  cases restA (all L) r made nth with
  | true => exact ⟨all_putL hw _ _ _, rfl, wf_put hw _ _ _⟩
  | false => exact ⟨rfl, rfl, hw⟩
structure Bo (n : Nat) (L : List Gn) (A : List Ch) : Prop where
  wf : WF L
  al : all L = A
  ri : Rising A
  le : A.length ≤ n
theorem bo_put {n : Nat} {L : List Gn} {A : List Ch} (h : Bo n L A) (r : Rv) : Bo (n + 1) (putP L r) (putA A r) ∧ putE L r = putAE A r := by
  obtain ⟨e1, e2, e3⟩ := all_putP h.wf h.al r
  refine ⟨⟨e3, e1, ?_, ?_⟩, e2⟩
  · unfold putA; split
    · rename_i q; exact rising_snoc h.ri (by rw [(nextA_rev _ _ _ _).1]; exact q)
    · exact h.ri
  · have := h.le
    unfold putA; split
    · simp; omega
    · omega
theorem bo_tomb {n : Nat} {L : List Gn} {A : List Ch} (h : Bo n L A) (r : Rv) : Bo (n + 1) (tombP L r) (tombA A r) ∧ tombE L r = tombAE A r := by
  obtain ⟨e1, e2, e3⟩ := all_tombP h.wf h.al r
  refine ⟨⟨e3, e1, ?_, ?_⟩, e2⟩
  · unfold tombA; split
    · rename_i q; rw [Bool.and_eq_true] at q; exact rising_snoc h.ri q.1
    · exact h.ri
  · have := h.le
    unfold tombA; split
    · simp; omega
    · omega
theorem bo_rest {n : Nat} {L : List Gn} {A : List Ch} (h : Bo n L A) (r : Rv) (made nth : Nat) : Bo (n + 1) (restP L r made nth) (restAP A r made nth) ∧ restE L r made nth = restAE A r made nth := by
  obtain ⟨e1, e2, e3⟩ := all_restP h.wf h.al r made nth
  refine ⟨⟨e3, e1, ?_, ?_⟩, e2⟩
  · unfold restAP; split
    · rename_i q
      refine rising_snoc h.ri ?_
      rw [(nextA_rev _ _ _ _).1]
      unfold restA at q
      simp only [Bool.and_eq_true] at q
      exact q.1.1.1.1
    · exact h.ri
  · have := h.le
    unfold restAP; split
    · simp; omega
    · omega
theorem bo_comp {n : Nat} {L : List Gn} {A : List Ch} (h : Bo n L A) (m : Nat) : Bo (n + 1) (compL L m) (compA A m) ∧ compK L m = (isK A m).map (·.rev) := by
  refine ⟨⟨wf_comp h.wf m, by rw [all_compL m (by rw [h.al]; exact h.ri), h.al], rising_comp h.ri m, ?_⟩, by rw [compK_isK, h.al]⟩
  rw [compA_filter m h.ri]
  exact Nat.le_trans (List.length_filter_le _ _) (Nat.le_succ_of_le h.le)
def doA (x : Nat × Rv × Nat × Nat) : AV := .agg [.int .u8 (.ofNat x.1), .int .u64 (.ofNat x.2.1.1), .int .u64 (.ofNat x.2.1.2), .int .u64 (.ofNat x.2.2.1), .int .u64 (.ofNat x.2.2.2)]
def PostDone (p : Nat → Prop) (n : Nat) (h : H) (v : AV) (h' : H) : Prop := Only h h' [] ∧ ∃ g r L A, v = .tuple [g, r, .bool true] ∧ GensP p h' g L ∧ RefP p h' r A ∧ Bo (n + 1) L A
theorem boxed2 (h1 : H) (s1 : AV) : ∃ h2, h2 = (h1.newCells 52 [.nilslice]).sts h1.nx 0 [s1] ∧ Only h1 h2 [] ∧ h2.nx = h1.nx + 1 ∧ cellAt h2 h1.nx 0 = some s1 ∧ wrAt h2 h1.nx = true := by
  refine ⟨_, rfl, ((Only.refl _ _).new _ _).sts (.inr (Nat.le_refl _)), by rw [nx_sts, nx_new], ?_, ?_⟩
  · simp only [B, xB, F, Nat.reduceLT, Nat.reduceLeDiff, Nat.reduceEqDiff, Nat.reduceAdd, Nat.reduceMul, Nat.reduceSub, ↓reduceIte, eq_self]
  · simp only [B, xB, F, Nat.reduceLT, Nat.reduceLeDiff, Nat.reduceEqDiff, Nat.reduceAdd, Nat.reduceMul, Nat.reduceSub, ↓reduceIte, eq_self]
set_option maxHeartbeats 4000000 in
theorem doneC (p : Nat → Prop) (n : Nat) (h : H) (v1 v2 : AV) (L : List Gn) (A : List Ch) (x : Nat × Rv × Nat × Nat) (hp : ∀ b, h.nx ≤ b → p b) (hg : GensP p h v1 L) (hr : RefP p h v2 A) (hB : Bo n L A) (hn : n ≤ 800) (hx : x.1 < 256 ∧ x.2.1.1 < M64 ∧ x.2.1.2 < M64 ∧ x.2.2.1 < M64 ∧ x.2.2.2 < M64) :
    PushC P (.enter 22 [v1, v2, doA x] h) (PostDone p n h) := by
  obtain ⟨wh, ⟨ma, su⟩, made, nth⟩ := x
  obtain ⟨hx1, hx2, hx3, hx4, hx5⟩ := hx
  simp only at hx1 hx2 hx3 hx4 hx5
  obtain ⟨y1, rfl, ho1, hc1⟩ := hg.val
  obtain ⟨y2, rfl, ho2, hc2⟩ := hr.1.val
  have hle := hB.le
  have hz : Sz 900 L := (wf_sz hB.wf).le (by rw [hB.al]; omega)
  obtain ⟨q, hq⟩ : ∃ q : Nat → Prop, q = fun b => p b ∧ b ≠ h.nx + 3 ∧ b ≠ h.nx + 4 := ⟨_, rfl⟩
  have hg : GensP q h (.agg [y1]) L := hg.mono fun b hb hpb => by rw [hq]; exact ⟨hpb, by omega, by omega⟩
  have hr : RefP q h (.agg [y2]) A := ⟨hr.1, fun y e b hb => by
    obtain ⟨⟨_, e2, hs, -⟩, hp2⟩ := hr
    cases e; cases e2
    rw [hq]; exact ⟨hp2 _ rfl b hb, by have := hs.blk b hb; omega, by have := hs.blk b hb; omega⟩⟩
  unfold doA
  simp only
  refine pushC_of_codeW (fn := Try.f22) (c := bodyC Try.f22) Try.func22 rfl ?_
  show codeW P 22 120 none _ _ _ _ _
  refine codeW_root ?_
  obtain ⟨h1, h1e⟩ : ∃ h1, h1 = (((((h.newCells 26 [y1]).newCells 52 [y2]).newCells 41 [.int .u8 (.ofNat wh), .int .u64 (.ofNat ma), .int .u64 (.ofNat su), .int .u64 (.ofNat made), .int .u64 (.ofNat nth)]).newCells 26 [.nilslice]).newCells 52 [.nilslice]) := ⟨_, rfl⟩
  have o1 : Only h h1 [] := by rw [h1e]; exact (((((Only.refl _ _).new _ _).new _ _).new _ _).new _ _).new _ _
  have x1 : h1.nx = h.nx + 5 := by rw [h1e]; rfl
  have k0 : cellAt h1 h.nx 0 = some y1 := by rw [h1e]; simp only [B, xB, F, Nat.reduceLT, Nat.reduceLeDiff, Nat.reduceEqDiff, Nat.reduceAdd, Nat.reduceMul, Nat.reduceSub, ↓reduceIte, eq_self]
  have k1 : cellAt h1 (h.nx + 1) 0 = some y2 := by rw [h1e]; simp only [B, xB, F, Nat.reduceLT, Nat.reduceLeDiff, Nat.reduceEqDiff, Nat.reduceAdd, Nat.reduceMul, Nat.reduceSub, ↓reduceIte, eq_self]
  have d0 : cellAt h1 (h.nx + 2) 0 = some (.int .u8 (.ofNat wh)) := by rw [h1e]; simp only [B, xB, F, Nat.reduceLT, Nat.reduceLeDiff, Nat.reduceEqDiff, Nat.reduceAdd, Nat.reduceMul, Nat.reduceSub, ↓reduceIte, eq_self]
  have d1 : cellAt h1 (h.nx + 2) 1 = some (.int .u64 (.ofNat ma)) := by rw [h1e]; simp only [B, xB, F, Nat.reduceLT, Nat.reduceLeDiff, Nat.reduceEqDiff, Nat.reduceAdd, Nat.reduceMul, Nat.reduceSub, ↓reduceIte, eq_self]
  have d2 : cellAt h1 (h.nx + 2) 2 = some (.int .u64 (.ofNat su)) := by rw [h1e]; simp only [B, xB, F, Nat.reduceLT, Nat.reduceLeDiff, Nat.reduceEqDiff, Nat.reduceAdd, Nat.reduceMul, Nat.reduceSub, ↓reduceIte, eq_self]
  have d3 : cellAt h1 (h.nx + 2) 3 = some (.int .u64 (.ofNat made)) := by rw [h1e]; simp only [B, xB, F, Nat.reduceLT, Nat.reduceLeDiff, Nat.reduceEqDiff, Nat.reduceAdd, Nat.reduceMul, Nat.reduceSub, ↓reduceIte, eq_self]
  have d4 : cellAt h1 (h.nx + 2) 4 = some (.int .u64 (.ofNat nth)) := by rw [h1e]; simp only [B, xB, F, Nat.reduceLT, Nat.reduceLeDiff, Nat.reduceEqDiff, Nat.reduceAdd, Nat.reduceMul, Nat.reduceSub, ↓reduceIte, eq_self]
  have z6 : cellAt h1 (h.nx + 3) 0 = some .nilslice := by rw [h1e]; simp only [B, xB, F, Nat.reduceLT, Nat.reduceLeDiff, Nat.reduceEqDiff, Nat.reduceAdd, Nat.reduceMul, Nat.reduceSub, ↓reduceIte, eq_self]
  have w6 : wrAt h1 (h.nx + 3) = true := by rw [h1e]; simp only [B, xB, F, Nat.reduceLT, Nat.reduceLeDiff, Nat.reduceEqDiff, Nat.reduceAdd, Nat.reduceMul, Nat.reduceSub, ↓reduceIte, eq_self]
  have z7 : cellAt h1 (h.nx + 4) 0 = some .nilslice := by rw [h1e]; simp only [B, xB, F, Nat.reduceLT, Nat.reduceLeDiff, Nat.reduceEqDiff, Nat.reduceAdd, Nat.reduceMul, Nat.reduceSub, ↓reduceIte, eq_self]
  have w7 : wrAt h1 (h.nx + 4) = true := by rw [h1e]; simp only [B, xB, F, Nat.reduceLT, Nat.reduceLeDiff, Nat.reduceEqDiff, Nat.reduceAdd, Nat.reduceMul, Nat.reduceSub, ↓reduceIte, eq_self]
  have hp1 : ∀ b, h1.nx ≤ b → q b := fun b hb => by rw [hq]; exact ⟨hp b (by omega), by omega, by omega⟩
  have hg := hg.keep0 o1
  have hr := hr.keep0 o1
  have fin : ∀ (hD : H) (y z : AV), Only h hD [] → wrAt hD (h.nx + 3) = true → wrAt hD (h.nx + 4) = true → ∀ L' A', GensP q hD (.agg [y]) L' → RefP q hD (.agg [z]) A' → Bo (n + 1) L' A' →
      Only h ((hD.sts (h.nx + 3) 0 [y]).sts (h.nx + 4) 0 [z]) [] ∧ GensP p ((hD.sts (h.nx + 3) 0 [y]).sts (h.nx + 4) 0 [z]) (.agg [y]) L' ∧ RefP p ((hD.sts (h.nx + 3) 0 [y]).sts (h.nx + 4) 0 [z]) (.agg [z]) A' := fun hD y z o _ _ L' A' g r b => by
    have oo : Only hD ((hD.sts (h.nx + 3) 0 [y]).sts (h.nx + 4) 0 [z]) [h.nx + 3, h.nx + 4] := ((Only.refl _ _).sts (.inl (by simp))).sts (.inl (by simp))
    have hS : ∀ c, c ∈ [h.nx + 3, h.nx + 4] → ¬ q c := fun c hc => by
      rw [hq]
      simp only [List.mem_cons, List.mem_nil_iff, or_false] at hc
      rcases hc with rfl | rfl
      · exact fun e => e.2.1 rfl
      · exact fun e => e.2.2 rfl
    refine ⟨(o.sts (.inr (by omega))).sts (.inr (by omega)), (g.keep oo hS).mono fun b _ e => by rw [hq] at e; exact e.1, (r.keep oo hS).1, fun y e b hb => by have := (r.keep oo hS).2 y e b hb; rw [hq] at this; exact this.1⟩
  by_cases c3 : wh % 6 = 3
  · have m3 : decide (wh % 6 = 3) = true := decide_eq_true c3
    repeat' (first | ((with_reducible show codeW _ _ _ _ (codeI _ _) _ _ _ _); first | (apply st_seq; exact rfl) | (refine st_reg ?_ rfl rfl ?_; exact rfl; (conv => arg 4; whnf); (conv => arg 3; whnf)) | (refine st_dw ?_ rfl rfl ?_ ?_; exact rfl; kernel_rfl; (conv => arg 5; whnf); (conv => arg 3; whnf)) | (refine st_cond ?_ rfl ?_; exact rfl; (conv => arg 1; arg 2; whnf)) | (refine st_block ?_ rfl ?_; exact rfl; (conv => arg 9; arg 1; whnf)) | (apply st_skip; exact rfl) | (refine st_exit ?_ rfl ?_; exact rfl; (conv in exitId _ => whnf)) | (apply st_ret; exact rfl)) | ((with_reducible refine retW_intro rfl ?_); (conv => arg 2; whnf)) | ((with_reducible first | refine iB (fun hb => ?_) (fun hb => ?_) | refine gWt (fun hb => ?_) (fun hb => ?_) | refine gWf (fun hb => ?_) (fun hb => ?_) | refine gXt (fun hb => ?_) (fun hb => ?_) | refine gXf (fun hb => ?_) (fun hb => ?_)) <;> (try simp only [hb])) | ((with_reducible show drawI _ _ _ _ _ _ _ _ _); first | (apply kI_rd; exact rfl) | (apply kI_rg; exact rfl; exact rfl) | (apply kI_cv; exact rfl; kernel_rfl) | (apply kI_al; exact rfl; exact rfl) | (apply kI_ex; exact rfl; kernel_rfl; exact rfl) | (apply kI_eg; exact rfl; kernel_rfl; exact rfl) | (apply kI_nl)) | ((with_reducible show eOk _ _ _ _ _ _); first | (exact eok_nil) | (apply ke_rd; exact rfl) | (apply ke_rg; exact rfl; exact rfl) | (apply ke_cv; exact rfl; kernel_rfl) | (apply ke_al; exact rfl; exact rfl)) | ((with_reducible apply freshIs_new); kernel_rfl) | (simp only [B, xB, F, Nat.reduceLT, Nat.reduceLeDiff, Nat.reduceEqDiff, Nat.reduceAdd, Nat.reduceMul, Nat.reduceSub, ↓reduceIte, eq_self, ho1, ho2, ← h1e, d0, d1, d2, k0, b_rem _ _ _ (nat_ne_zero (show 0 < 6 by omega)), tmod_nat, m3]))
    refine ((TombC q h1 _ L (ma, su) hp1 hg hz hB.wf.outer).call P).mono P ?_
    rintro v hA ⟨oA, g, rfl, hgA⟩
    obtain ⟨ya, rfl, hoa, hca⟩ := hgA.val
    obtain ⟨hBb, hBe, oB, xBb, ca, -⟩ := boxed hA ya
    have xA := oA.1
    have xoA := oA.1
    first | replace k0 := kcell k0 oA (by omega) (by simp) | replace k0 := kwr k0 oA (by omega) (by simp)
    first | replace k1 := kcell k1 oA (by omega) (by simp) | replace k1 := kwr k1 oA (by omega) (by simp)
    first | replace d0 := kcell d0 oA (by omega) (by simp) | replace d0 := kwr d0 oA (by omega) (by simp)
    first | replace d1 := kcell d1 oA (by omega) (by simp) | replace d1 := kwr d1 oA (by omega) (by simp)
    first | replace d2 := kcell d2 oA (by omega) (by simp) | replace d2 := kwr d2 oA (by omega) (by simp)
    first | replace d3 := kcell d3 oA (by omega) (by simp) | replace d3 := kwr d3 oA (by omega) (by simp)
    first | replace d4 := kcell d4 oA (by omega) (by simp) | replace d4 := kwr d4 oA (by omega) (by simp)
    first | replace z6 := kcell z6 oA (by omega) (by simp) | replace z6 := kwr z6 oA (by omega) (by simp)
    first | replace w6 := kcell w6 oA (by omega) (by simp) | replace w6 := kwr w6 oA (by omega) (by simp)
    first | replace z7 := kcell z7 oA (by omega) (by simp) | replace z7 := kwr z7 oA (by omega) (by simp)
    first | replace w7 := kcell w7 oA (by omega) (by simp) | replace w7 := kwr w7 oA (by omega) (by simp)
    have xoB := oB.1
    first | replace k0 := kcell k0 oB (by omega) (by simp) | replace k0 := kwr k0 oB (by omega) (by simp)
    first | replace k1 := kcell k1 oB (by omega) (by simp) | replace k1 := kwr k1 oB (by omega) (by simp)
    first | replace d0 := kcell d0 oB (by omega) (by simp) | replace d0 := kwr d0 oB (by omega) (by simp)
    first | replace d1 := kcell d1 oB (by omega) (by simp) | replace d1 := kwr d1 oB (by omega) (by simp)
    first | replace d2 := kcell d2 oB (by omega) (by simp) | replace d2 := kwr d2 oB (by omega) (by simp)
    first | replace d3 := kcell d3 oB (by omega) (by simp) | replace d3 := kwr d3 oB (by omega) (by simp)
    first | replace d4 := kcell d4 oB (by omega) (by simp) | replace d4 := kwr d4 oB (by omega) (by simp)
    first | replace z6 := kcell z6 oB (by omega) (by simp) | replace z6 := kwr z6 oB (by omega) (by simp)
    first | replace w6 := kcell w6 oB (by omega) (by simp) | replace w6 := kwr w6 oB (by omega) (by simp)
    first | replace z7 := kcell z7 oB (by omega) (by simp) | replace z7 := kwr z7 oB (by omega) (by simp)
    first | replace w7 := kcell w7 oB (by omega) (by simp) | replace w7 := kwr w7 oB (by omega) (by simp)
    have hgB := hgA.keep0 oB
    have hr := (hr.keep0 oA).keep0 oB
    unfold errV
    repeat' (first | ((with_reducible show codeW _ _ _ _ (codeI _ _) _ _ _ _); first | (apply st_seq; exact rfl) | (refine st_reg ?_ rfl rfl ?_; exact rfl; (conv => arg 4; whnf); (conv => arg 3; whnf)) | (refine st_dw ?_ rfl rfl ?_ ?_; exact rfl; kernel_rfl; (conv => arg 5; whnf); (conv => arg 3; whnf)) | (refine st_cond ?_ rfl ?_; exact rfl; (conv => arg 1; arg 2; whnf)) | (refine st_block ?_ rfl ?_; exact rfl; (conv => arg 9; arg 1; whnf)) | (apply st_skip; exact rfl) | (refine st_exit ?_ rfl ?_; exact rfl; (conv in exitId _ => whnf)) | (apply st_ret; exact rfl)) | ((with_reducible refine retW_intro rfl ?_); (conv => arg 2; whnf)) | ((with_reducible first | refine iB (fun hb => ?_) (fun hb => ?_) | refine gWt (fun hb => ?_) (fun hb => ?_) | refine gWf (fun hb => ?_) (fun hb => ?_) | refine gXt (fun hb => ?_) (fun hb => ?_) | refine gXf (fun hb => ?_) (fun hb => ?_)) <;> (try simp only [hb])) | ((with_reducible show drawI _ _ _ _ _ _ _ _ _); first | (apply kI_rd; exact rfl) | (apply kI_rg; exact rfl; exact rfl) | (apply kI_cv; exact rfl; kernel_rfl) | (apply kI_al; exact rfl; exact rfl) | (apply kI_ex; exact rfl; kernel_rfl; exact rfl) | (apply kI_eg; exact rfl; kernel_rfl; exact rfl) | (apply kI_nl)) | ((with_reducible show eOk _ _ _ _ _ _); first | (exact eok_nil) | (apply ke_rd; exact rfl) | (apply ke_rg; exact rfl; exact rfl) | (apply ke_cv; exact rfl; kernel_rfl) | (apply ke_al; exact rfl; exact rfl)) | ((with_reducible apply freshIs_new); kernel_rfl) | (simp only [B, xB, F, Nat.reduceLT, Nat.reduceLeDiff, Nat.reduceEqDiff, Nat.reduceAdd, Nat.reduceMul, Nat.reduceSub, ↓reduceIte, eq_self, hoa, hca, ← hBe, k0, k1, d0, d1, d2, d3, d4, m3]))
    refine ((rTombC q hBb _ A (ma, su) (fun b hb => hp1 b (by omega)) hr (by omega)).call P).mono P ?_
    rintro v hC ⟨oC, g, rfl, hrC⟩
    obtain ⟨yb, rfl, hob, hcb⟩ := hrC.1.val
    obtain ⟨hD, hDe, oD, xD, cb, -⟩ := boxed2 hC yb
    have xC := oC.1
    have xoC := oC.1
    first | replace ca := kcell ca oC (by omega) (by simp) | replace ca := kwr ca oC (by omega) (by simp)
    first | replace k0 := kcell k0 oC (by omega) (by simp) | replace k0 := kwr k0 oC (by omega) (by simp)
    first | replace k1 := kcell k1 oC (by omega) (by simp) | replace k1 := kwr k1 oC (by omega) (by simp)
    first | replace d0 := kcell d0 oC (by omega) (by simp) | replace d0 := kwr d0 oC (by omega) (by simp)
    first | replace d1 := kcell d1 oC (by omega) (by simp) | replace d1 := kwr d1 oC (by omega) (by simp)
    first | replace d2 := kcell d2 oC (by omega) (by simp) | replace d2 := kwr d2 oC (by omega) (by simp)
    first | replace d3 := kcell d3 oC (by omega) (by simp) | replace d3 := kwr d3 oC (by omega) (by simp)
    first | replace d4 := kcell d4 oC (by omega) (by simp) | replace d4 := kwr d4 oC (by omega) (by simp)
    first | replace z6 := kcell z6 oC (by omega) (by simp) | replace z6 := kwr z6 oC (by omega) (by simp)
    first | replace w6 := kcell w6 oC (by omega) (by simp) | replace w6 := kwr w6 oC (by omega) (by simp)
    first | replace z7 := kcell z7 oC (by omega) (by simp) | replace z7 := kwr z7 oC (by omega) (by simp)
    first | replace w7 := kcell w7 oC (by omega) (by simp) | replace w7 := kwr w7 oC (by omega) (by simp)
    have xoD := oD.1
    first | replace ca := kcell ca oD (by omega) (by simp) | replace ca := kwr ca oD (by omega) (by simp)
    first | replace k0 := kcell k0 oD (by omega) (by simp) | replace k0 := kwr k0 oD (by omega) (by simp)
    first | replace k1 := kcell k1 oD (by omega) (by simp) | replace k1 := kwr k1 oD (by omega) (by simp)
    first | replace d0 := kcell d0 oD (by omega) (by simp) | replace d0 := kwr d0 oD (by omega) (by simp)
    first | replace d1 := kcell d1 oD (by omega) (by simp) | replace d1 := kwr d1 oD (by omega) (by simp)
    first | replace d2 := kcell d2 oD (by omega) (by simp) | replace d2 := kwr d2 oD (by omega) (by simp)
    first | replace d3 := kcell d3 oD (by omega) (by simp) | replace d3 := kwr d3 oD (by omega) (by simp)
    first | replace d4 := kcell d4 oD (by omega) (by simp) | replace d4 := kwr d4 oD (by omega) (by simp)
    first | replace z6 := kcell z6 oD (by omega) (by simp) | replace z6 := kwr z6 oD (by omega) (by simp)
    first | replace w6 := kcell w6 oD (by omega) (by simp) | replace w6 := kwr w6 oD (by omega) (by simp)
    first | replace z7 := kcell z7 oD (by omega) (by simp) | replace z7 := kwr z7 oD (by omega) (by simp)
    first | replace w7 := kcell w7 oD (by omega) (by simp) | replace w7 := kwr w7 oD (by omega) (by simp)
    have hgD := (hgB.keep0 oC).keep0 oD
    have hrD := hrC.keep0 oD
    have oF := (((o1.t oA).t oB).t oC).t oD
    obtain ⟨f1, f2, f3⟩ := fin hD ya yb oF w6 w7 _ _ hgD hrD (bo_tomb hB (ma, su)).1
    have hee := (bo_tomb hB (ma, su)).2
    rw [hee]
    have e9 : ∀ k : Int, (k == k) = true := fun k => beq_self_eq_true k
    have e8 : ∀ k : Nat, decide (k = k) = true := fun k => decide_eq_true rfl
    obtain ⟨hE, hEe⟩ : ∃ hE, hE = hD.sts (h.nx + 3) 0 [ya] := ⟨_, rfl⟩
    obtain ⟨hF, hFe⟩ : ∃ hF, hF = hE.sts (h.nx + 4) 0 [yb] := ⟨_, rfl⟩
    have w7E : wrAt hE (h.nx + 4) = true := by rw [hEe, wrAt_sts]; exact w7
    have z7E : cellAt hE (h.nx + 4) 0 = some .nilslice := by rw [hEe]; simp only [B, xB, F, Nat.reduceLT, Nat.reduceLeDiff, Nat.reduceEqDiff, Nat.reduceAdd, Nat.reduceMul, Nat.reduceSub, ↓reduceIte, eq_self, cellAt_sts w6, z7]
    have caE : cellAt hE hA.nx 0 = some ya := by rw [hEe, cellAt_sts w6, if_neg (by omega)]; exact ca
    have cbE : cellAt hE hC.nx 0 = some yb := by rw [hEe, cellAt_sts w6, if_neg (by omega)]; exact cb
    have caF : cellAt hF hA.nx 0 = some ya := by rw [hFe, cellAt_sts w7E, if_neg (by omega)]; exact caE
    have cbF : cellAt hF hC.nx 0 = some yb := by rw [hFe, cellAt_sts w7E, if_neg (by omega)]; exact cbE
    have c6F : cellAt hF (h.nx + 3) 0 = some ya := by rw [hFe, cellAt_sts w7E, if_neg (by omega), hEe, cellAt_sts w6, if_pos ⟨rfl, Nat.le_refl _, by simp⟩]; rfl
    have c7F : cellAt hF (h.nx + 4) 0 = some yb := by rw [hFe, cellAt_sts w7E, if_pos ⟨rfl, Nat.le_refl _, by simp⟩]; rfl
    rw [← hEe, ← hFe] at f1 f2 f3
    unfold PostDone errV
    repeat' (first | ((with_reducible show codeW _ _ _ _ (codeI _ _) _ _ _ _); first | (apply st_seq; exact rfl) | (refine st_reg ?_ rfl rfl ?_; exact rfl; (conv => arg 4; whnf); (conv => arg 3; whnf)) | (refine st_dw ?_ rfl rfl ?_ ?_; exact rfl; kernel_rfl; (conv => arg 5; whnf); (conv => arg 3; whnf)) | (refine st_cond ?_ rfl ?_; exact rfl; (conv => arg 1; arg 2; whnf)) | (refine st_block ?_ rfl ?_; exact rfl; (conv => arg 9; arg 1; whnf)) | (apply st_skip; exact rfl) | (refine st_exit ?_ rfl ?_; exact rfl; (conv in exitId _ => whnf)) | (apply st_ret; exact rfl)) | ((with_reducible refine retW_intro rfl ?_); (conv => arg 2; whnf)) | ((with_reducible first | refine iB (fun hb => ?_) (fun hb => ?_) | refine gWt (fun hb => ?_) (fun hb => ?_) | refine gWf (fun hb => ?_) (fun hb => ?_) | refine gXt (fun hb => ?_) (fun hb => ?_) | refine gXf (fun hb => ?_) (fun hb => ?_)) <;> (try simp only [hb])) | ((with_reducible show drawI _ _ _ _ _ _ _ _ _); first | (apply kI_rd; exact rfl) | (apply kI_rg; exact rfl; exact rfl) | (apply kI_cv; exact rfl; kernel_rfl) | (apply kI_al; exact rfl; exact rfl) | (apply kI_ex; exact rfl; kernel_rfl; exact rfl) | (apply kI_eg; exact rfl; kernel_rfl; exact rfl) | (apply kI_nl)) | ((with_reducible show eOk _ _ _ _ _ _); first | (exact eok_nil) | (apply ke_rd; exact rfl) | (apply ke_rg; exact rfl; exact rfl) | (apply ke_cv; exact rfl; kernel_rfl) | (apply ke_al; exact rfl; exact rfl)) | ((with_reducible apply freshIs_new); kernel_rfl) | (simp only [B, xB, F, Nat.reduceLT, Nat.reduceLeDiff, Nat.reduceEqDiff, Nat.reduceAdd, Nat.reduceMul, Nat.reduceSub, ↓reduceIte, eq_self, hob, hcb, ← hDe, put_sts, w6, z6, w7E, z7E, ← hEe, ← hFe, hoa, hob, hca, hcb, ca, cb, caE, cbE, caF, cbF, c6F, c7F, e8, e9, m3]))
    exact ⟨f1, _, _, _, _, rfl, f2, f3, (bo_tomb hB (ma, su)).1⟩
  have m3 : decide (wh % 6 = 3) = false := decide_eq_false c3
  by_cases c4 : wh % 6 = 4
  · have m4 : decide (wh % 6 = 4) = true := decide_eq_true c4
    repeat' (first | ((with_reducible show codeW _ _ _ _ (codeI _ _) _ _ _ _); first | (apply st_seq; exact rfl) | (refine st_reg ?_ rfl rfl ?_; exact rfl; (conv => arg 4; whnf); (conv => arg 3; whnf)) | (refine st_dw ?_ rfl rfl ?_ ?_; exact rfl; kernel_rfl; (conv => arg 5; whnf); (conv => arg 3; whnf)) | (refine st_cond ?_ rfl ?_; exact rfl; (conv => arg 1; arg 2; whnf)) | (refine st_block ?_ rfl ?_; exact rfl; (conv => arg 9; arg 1; whnf)) | (apply st_skip; exact rfl) | (refine st_exit ?_ rfl ?_; exact rfl; (conv in exitId _ => whnf)) | (apply st_ret; exact rfl)) | ((with_reducible refine retW_intro rfl ?_); (conv => arg 2; whnf)) | ((with_reducible first | refine iB (fun hb => ?_) (fun hb => ?_) | refine gWt (fun hb => ?_) (fun hb => ?_) | refine gWf (fun hb => ?_) (fun hb => ?_) | refine gXt (fun hb => ?_) (fun hb => ?_) | refine gXf (fun hb => ?_) (fun hb => ?_)) <;> (try simp only [hb])) | ((with_reducible show drawI _ _ _ _ _ _ _ _ _); first | (apply kI_rd; exact rfl) | (apply kI_rg; exact rfl; exact rfl) | (apply kI_cv; exact rfl; kernel_rfl) | (apply kI_al; exact rfl; exact rfl) | (apply kI_ex; exact rfl; kernel_rfl; exact rfl) | (apply kI_eg; exact rfl; kernel_rfl; exact rfl) | (apply kI_nl)) | ((with_reducible show eOk _ _ _ _ _ _); first | (exact eok_nil) | (apply ke_rd; exact rfl) | (apply ke_rg; exact rfl; exact rfl) | (apply ke_cv; exact rfl; kernel_rfl) | (apply ke_al; exact rfl; exact rfl)) | ((with_reducible apply freshIs_new); kernel_rfl) | (simp only [B, xB, F, Nat.reduceLT, Nat.reduceLeDiff, Nat.reduceEqDiff, Nat.reduceAdd, Nat.reduceMul, Nat.reduceSub, ↓reduceIte, eq_self, ho1, ho2, ← h1e, d0, d1, d2, d3, d4, k0, b_rem _ _ _ (nat_ne_zero (show 0 < 6 by omega)), tmod_nat, m3, m4]))
    refine ((RestC q h1 _ L (ma, su) made nth hp1 hg hz).call P).mono P ?_
    rintro v hA ⟨oA, g, rfl, hgA⟩
    obtain ⟨ya, rfl, hoa, hca⟩ := hgA.val
    obtain ⟨hBb, hBe, oB, xBb, ca, -⟩ := boxed hA ya
    have xA := oA.1
    have xoA := oA.1
    first | replace k0 := kcell k0 oA (by omega) (by simp) | replace k0 := kwr k0 oA (by omega) (by simp)
    first | replace k1 := kcell k1 oA (by omega) (by simp) | replace k1 := kwr k1 oA (by omega) (by simp)
    first | replace d0 := kcell d0 oA (by omega) (by simp) | replace d0 := kwr d0 oA (by omega) (by simp)
    first | replace d1 := kcell d1 oA (by omega) (by simp) | replace d1 := kwr d1 oA (by omega) (by simp)
    first | replace d2 := kcell d2 oA (by omega) (by simp) | replace d2 := kwr d2 oA (by omega) (by simp)
    first | replace d3 := kcell d3 oA (by omega) (by simp) | replace d3 := kwr d3 oA (by omega) (by simp)
    first | replace d4 := kcell d4 oA (by omega) (by simp) | replace d4 := kwr d4 oA (by omega) (by simp)
    first | replace z6 := kcell z6 oA (by omega) (by simp) | replace z6 := kwr z6 oA (by omega) (by simp)
    first | replace w6 := kcell w6 oA (by omega) (by simp) | replace w6 := kwr w6 oA (by omega) (by simp)
    first | replace z7 := kcell z7 oA (by omega) (by simp) | replace z7 := kwr z7 oA (by omega) (by simp)
    first | replace w7 := kcell w7 oA (by omega) (by simp) | replace w7 := kwr w7 oA (by omega) (by simp)
    have xoB := oB.1
    first | replace k0 := kcell k0 oB (by omega) (by simp) | replace k0 := kwr k0 oB (by omega) (by simp)
    first | replace k1 := kcell k1 oB (by omega) (by simp) | replace k1 := kwr k1 oB (by omega) (by simp)
    first | replace d0 := kcell d0 oB (by omega) (by simp) | replace d0 := kwr d0 oB (by omega) (by simp)
    first | replace d1 := kcell d1 oB (by omega) (by simp) | replace d1 := kwr d1 oB (by omega) (by simp)
    first | replace d2 := kcell d2 oB (by omega) (by simp) | replace d2 := kwr d2 oB (by omega) (by simp)
    first | replace d3 := kcell d3 oB (by omega) (by simp) | replace d3 := kwr d3 oB (by omega) (by simp)
    first | replace d4 := kcell d4 oB (by omega) (by simp) | replace d4 := kwr d4 oB (by omega) (by simp)
    first | replace z6 := kcell z6 oB (by omega) (by simp) | replace z6 := kwr z6 oB (by omega) (by simp)
    first | replace w6 := kcell w6 oB (by omega) (by simp) | replace w6 := kwr w6 oB (by omega) (by simp)
    first | replace z7 := kcell z7 oB (by omega) (by simp) | replace z7 := kwr z7 oB (by omega) (by simp)
    first | replace w7 := kcell w7 oB (by omega) (by simp) | replace w7 := kwr w7 oB (by omega) (by simp)
    have hgB := hgA.keep0 oB
    have hr := (hr.keep0 oA).keep0 oB
    unfold errV
    repeat' (first | ((with_reducible show codeW _ _ _ _ (codeI _ _) _ _ _ _); first | (apply st_seq; exact rfl) | (refine st_reg ?_ rfl rfl ?_; exact rfl; (conv => arg 4; whnf); (conv => arg 3; whnf)) | (refine st_dw ?_ rfl rfl ?_ ?_; exact rfl; kernel_rfl; (conv => arg 5; whnf); (conv => arg 3; whnf)) | (refine st_cond ?_ rfl ?_; exact rfl; (conv => arg 1; arg 2; whnf)) | (refine st_block ?_ rfl ?_; exact rfl; (conv => arg 9; arg 1; whnf)) | (apply st_skip; exact rfl) | (refine st_exit ?_ rfl ?_; exact rfl; (conv in exitId _ => whnf)) | (apply st_ret; exact rfl)) | ((with_reducible refine retW_intro rfl ?_); (conv => arg 2; whnf)) | ((with_reducible first | refine iB (fun hb => ?_) (fun hb => ?_) | refine gWt (fun hb => ?_) (fun hb => ?_) | refine gWf (fun hb => ?_) (fun hb => ?_) | refine gXt (fun hb => ?_) (fun hb => ?_) | refine gXf (fun hb => ?_) (fun hb => ?_)) <;> (try simp only [hb])) | ((with_reducible show drawI _ _ _ _ _ _ _ _ _); first | (apply kI_rd; exact rfl) | (apply kI_rg; exact rfl; exact rfl) | (apply kI_cv; exact rfl; kernel_rfl) | (apply kI_al; exact rfl; exact rfl) | (apply kI_ex; exact rfl; kernel_rfl; exact rfl) | (apply kI_eg; exact rfl; kernel_rfl; exact rfl) | (apply kI_nl)) | ((with_reducible show eOk _ _ _ _ _ _); first | (exact eok_nil) | (apply ke_rd; exact rfl) | (apply ke_rg; exact rfl; exact rfl) | (apply ke_cv; exact rfl; kernel_rfl) | (apply ke_al; exact rfl; exact rfl)) | ((with_reducible apply freshIs_new); kernel_rfl) | (simp only [B, xB, F, Nat.reduceLT, Nat.reduceLeDiff, Nat.reduceEqDiff, Nat.reduceAdd, Nat.reduceMul, Nat.reduceSub, ↓reduceIte, eq_self, hoa, hca, ← hBe, k0, k1, d0, d1, d2, d3, d4, m3, m4]))
    refine ((rRestC q hBb _ A (ma, su) made nth (fun b hb => hp1 b (by omega)) hr (by omega) hx5).call P).mono P ?_
    rintro v hC ⟨oC, g, rfl, hrC⟩
    obtain ⟨yb, rfl, hob, hcb⟩ := hrC.1.val
    obtain ⟨hD, hDe, oD, xD, cb, -⟩ := boxed2 hC yb
    have xC := oC.1
    have xoC := oC.1
    first | replace ca := kcell ca oC (by omega) (by simp) | replace ca := kwr ca oC (by omega) (by simp)
    first | replace k0 := kcell k0 oC (by omega) (by simp) | replace k0 := kwr k0 oC (by omega) (by simp)
    first | replace k1 := kcell k1 oC (by omega) (by simp) | replace k1 := kwr k1 oC (by omega) (by simp)
    first | replace d0 := kcell d0 oC (by omega) (by simp) | replace d0 := kwr d0 oC (by omega) (by simp)
    first | replace d1 := kcell d1 oC (by omega) (by simp) | replace d1 := kwr d1 oC (by omega) (by simp)
    first | replace d2 := kcell d2 oC (by omega) (by simp) | replace d2 := kwr d2 oC (by omega) (by simp)
    first | replace d3 := kcell d3 oC (by omega) (by simp) | replace d3 := kwr d3 oC (by omega) (by simp)
    first | replace d4 := kcell d4 oC (by omega) (by simp) | replace d4 := kwr d4 oC (by omega) (by simp)
    first | replace z6 := kcell z6 oC (by omega) (by simp) | replace z6 := kwr z6 oC (by omega) (by simp)
    first | replace w6 := kcell w6 oC (by omega) (by simp) | replace w6 := kwr w6 oC (by omega) (by simp)
    first | replace z7 := kcell z7 oC (by omega) (by simp) | replace z7 := kwr z7 oC (by omega) (by simp)
    first | replace w7 := kcell w7 oC (by omega) (by simp) | replace w7 := kwr w7 oC (by omega) (by simp)
    have xoD := oD.1
    first | replace ca := kcell ca oD (by omega) (by simp) | replace ca := kwr ca oD (by omega) (by simp)
    first | replace k0 := kcell k0 oD (by omega) (by simp) | replace k0 := kwr k0 oD (by omega) (by simp)
    first | replace k1 := kcell k1 oD (by omega) (by simp) | replace k1 := kwr k1 oD (by omega) (by simp)
    first | replace d0 := kcell d0 oD (by omega) (by simp) | replace d0 := kwr d0 oD (by omega) (by simp)
    first | replace d1 := kcell d1 oD (by omega) (by simp) | replace d1 := kwr d1 oD (by omega) (by simp)
    first | replace d2 := kcell d2 oD (by omega) (by simp) | replace d2 := kwr d2 oD (by omega) (by simp)
    first | replace d3 := kcell d3 oD (by omega) (by simp) | replace d3 := kwr d3 oD (by omega) (by simp)
    first | replace d4 := kcell d4 oD (by omega) (by simp) | replace d4 := kwr d4 oD (by omega) (by simp)
    first | replace z6 := kcell z6 oD (by omega) (by simp) | replace z6 := kwr z6 oD (by omega) (by simp)
    first | replace w6 := kcell w6 oD (by omega) (by simp) | replace w6 := kwr w6 oD (by omega) (by simp)
    first | replace z7 := kcell z7 oD (by omega) (by simp) | replace z7 := kwr z7 oD (by omega) (by simp)
    first | replace w7 := kcell w7 oD (by omega) (by simp) | replace w7 := kwr w7 oD (by omega) (by simp)
    have hgD := (hgB.keep0 oC).keep0 oD
    have hrD := hrC.keep0 oD
    have oF := (((o1.t oA).t oB).t oC).t oD
    obtain ⟨f1, f2, f3⟩ := fin hD ya yb oF w6 w7 _ _ hgD hrD (bo_rest hB (ma, su) made nth).1
    have hee := (bo_rest hB (ma, su) made nth).2
    rw [hee]
    have e9 : ∀ k : Int, (k == k) = true := fun k => beq_self_eq_true k
    have e8 : ∀ k : Nat, decide (k = k) = true := fun k => decide_eq_true rfl
    obtain ⟨hE, hEe⟩ : ∃ hE, hE = hD.sts (h.nx + 3) 0 [ya] := ⟨_, rfl⟩
    obtain ⟨hF, hFe⟩ : ∃ hF, hF = hE.sts (h.nx + 4) 0 [yb] := ⟨_, rfl⟩
    have w7E : wrAt hE (h.nx + 4) = true := by rw [hEe, wrAt_sts]; exact w7
    have z7E : cellAt hE (h.nx + 4) 0 = some .nilslice := by rw [hEe]; simp only [B, xB, F, Nat.reduceLT, Nat.reduceLeDiff, Nat.reduceEqDiff, Nat.reduceAdd, Nat.reduceMul, Nat.reduceSub, ↓reduceIte, eq_self, cellAt_sts w6, z7]
    have caE : cellAt hE hA.nx 0 = some ya := by rw [hEe, cellAt_sts w6, if_neg (by omega)]; exact ca
    have cbE : cellAt hE hC.nx 0 = some yb := by rw [hEe, cellAt_sts w6, if_neg (by omega)]; exact cb
    have caF : cellAt hF hA.nx 0 = some ya := by rw [hFe, cellAt_sts w7E, if_neg (by omega)]; exact caE
    have cbF : cellAt hF hC.nx 0 = some yb := by rw [hFe, cellAt_sts w7E, if_neg (by omega)]; exact cbE
    have c6F : cellAt hF (h.nx + 3) 0 = some ya := by rw [hFe, cellAt_sts w7E, if_neg (by omega), hEe, cellAt_sts w6, if_pos ⟨rfl, Nat.le_refl _, by simp⟩]; rfl
    have c7F : cellAt hF (h.nx + 4) 0 = some yb := by rw [hFe, cellAt_sts w7E, if_pos ⟨rfl, Nat.le_refl _, by simp⟩]; rfl
    rw [← hEe, ← hFe] at f1 f2 f3
    unfold PostDone errV
    repeat' (first | ((with_reducible show codeW _ _ _ _ (codeI _ _) _ _ _ _); first | (apply st_seq; exact rfl) | (refine st_reg ?_ rfl rfl ?_; exact rfl; (conv => arg 4; whnf); (conv => arg 3; whnf)) | (refine st_dw ?_ rfl rfl ?_ ?_; exact rfl; kernel_rfl; (conv => arg 5; whnf); (conv => arg 3; whnf)) | (refine st_cond ?_ rfl ?_; exact rfl; (conv => arg 1; arg 2; whnf)) | (refine st_block ?_ rfl ?_; exact rfl; (conv => arg 9; arg 1; whnf)) | (apply st_skip; exact rfl) | (refine st_exit ?_ rfl ?_; exact rfl; (conv in exitId _ => whnf)) | (apply st_ret; exact rfl)) | ((with_reducible refine retW_intro rfl ?_); (conv => arg 2; whnf)) | ((with_reducible first | refine iB (fun hb => ?_) (fun hb => ?_) | refine gWt (fun hb => ?_) (fun hb => ?_) | refine gWf (fun hb => ?_) (fun hb => ?_) | refine gXt (fun hb => ?_) (fun hb => ?_) | refine gXf (fun hb => ?_) (fun hb => ?_)) <;> (try simp only [hb])) | ((with_reducible show drawI _ _ _ _ _ _ _ _ _); first | (apply kI_rd; exact rfl) | (apply kI_rg; exact rfl; exact rfl) | (apply kI_cv; exact rfl; kernel_rfl) | (apply kI_al; exact rfl; exact rfl) | (apply kI_ex; exact rfl; kernel_rfl; exact rfl) | (apply kI_eg; exact rfl; kernel_rfl; exact rfl) | (apply kI_nl)) | ((with_reducible show eOk _ _ _ _ _ _); first | (exact eok_nil) | (apply ke_rd; exact rfl) | (apply ke_rg; exact rfl; exact rfl) | (apply ke_cv; exact rfl; kernel_rfl) | (apply ke_al; exact rfl; exact rfl)) | ((with_reducible apply freshIs_new); kernel_rfl) | (simp only [B, xB, F, Nat.reduceLT, Nat.reduceLeDiff, Nat.reduceEqDiff, Nat.reduceAdd, Nat.reduceMul, Nat.reduceSub, ↓reduceIte, eq_self, hob, hcb, ← hDe, put_sts, w6, z6, w7E, z7E, ← hEe, ← hFe, hoa, hob, hca, hcb, ca, cb, caE, cbE, caF, cbF, c6F, c7F, e8, e9, m3, m4]))
    exact ⟨f1, _, _, _, _, rfl, f2, f3, (bo_rest hB (ma, su) made nth).1⟩
  have m4 : decide (wh % 6 = 4) = false := decide_eq_false c4
  by_cases c5 : wh % 6 = 5
  · have m5 : decide (wh % 6 = 5) = true := decide_eq_true c5
    repeat' (first | ((with_reducible show codeW _ _ _ _ (codeI _ _) _ _ _ _); first | (apply st_seq; exact rfl) | (refine st_reg ?_ rfl rfl ?_; exact rfl; (conv => arg 4; whnf); (conv => arg 3; whnf)) | (refine st_dw ?_ rfl rfl ?_ ?_; exact rfl; kernel_rfl; (conv => arg 5; whnf); (conv => arg 3; whnf)) | (refine st_cond ?_ rfl ?_; exact rfl; (conv => arg 1; arg 2; whnf)) | (refine st_block ?_ rfl ?_; exact rfl; (conv => arg 9; arg 1; whnf)) | (apply st_skip; exact rfl) | (refine st_exit ?_ rfl ?_; exact rfl; (conv in exitId _ => whnf)) | (apply st_ret; exact rfl)) | ((with_reducible refine retW_intro rfl ?_); (conv => arg 2; whnf)) | ((with_reducible first | refine iB (fun hb => ?_) (fun hb => ?_) | refine gWt (fun hb => ?_) (fun hb => ?_) | refine gWf (fun hb => ?_) (fun hb => ?_) | refine gXt (fun hb => ?_) (fun hb => ?_) | refine gXf (fun hb => ?_) (fun hb => ?_)) <;> (try simp only [hb])) | ((with_reducible show drawI _ _ _ _ _ _ _ _ _); first | (apply kI_rd; exact rfl) | (apply kI_rg; exact rfl; exact rfl) | (apply kI_cv; exact rfl; kernel_rfl) | (apply kI_al; exact rfl; exact rfl) | (apply kI_ex; exact rfl; kernel_rfl; exact rfl) | (apply kI_eg; exact rfl; kernel_rfl; exact rfl) | (apply kI_nl)) | ((with_reducible show eOk _ _ _ _ _ _); first | (exact eok_nil) | (apply ke_rd; exact rfl) | (apply ke_rg; exact rfl; exact rfl) | (apply ke_cv; exact rfl; kernel_rfl) | (apply ke_al; exact rfl; exact rfl)) | ((with_reducible apply freshIs_new); kernel_rfl) | (simp only [B, xB, F, Nat.reduceLT, Nat.reduceLeDiff, Nat.reduceEqDiff, Nat.reduceAdd, Nat.reduceMul, Nat.reduceSub, ↓reduceIte, eq_self, ho1, ho2, ← h1e, d0, d1, d2, d3, d4, k0, b_rem _ _ _ (nat_ne_zero (show 0 < 6 by omega)), tmod_nat, m3, m4, m5]))
    have hz1 : Sz 1000 L := hz.le (by omega)
    refine ((compC q h1 _ L ma hp1 hg.at hz1).call P).mono P ?_
    rintro v hA ⟨oA, g, u1, rfl, hgA, gu1⟩
    obtain ⟨ya, rfl, hoa, hca⟩ := hgA.val
    obtain ⟨hBb, hBe, oB, xBb, ca, -⟩ := boxed hA ya
    have xA := oA.1
    have xoA := oA.1
    first | replace k0 := kcell k0 oA (by omega) (by simp) | replace k0 := kwr k0 oA (by omega) (by simp)
    first | replace k1 := kcell k1 oA (by omega) (by simp) | replace k1 := kwr k1 oA (by omega) (by simp)
    first | replace d0 := kcell d0 oA (by omega) (by simp) | replace d0 := kwr d0 oA (by omega) (by simp)
    first | replace d1 := kcell d1 oA (by omega) (by simp) | replace d1 := kwr d1 oA (by omega) (by simp)
    first | replace d2 := kcell d2 oA (by omega) (by simp) | replace d2 := kwr d2 oA (by omega) (by simp)
    first | replace d3 := kcell d3 oA (by omega) (by simp) | replace d3 := kwr d3 oA (by omega) (by simp)
    first | replace d4 := kcell d4 oA (by omega) (by simp) | replace d4 := kwr d4 oA (by omega) (by simp)
    first | replace z6 := kcell z6 oA (by omega) (by simp) | replace z6 := kwr z6 oA (by omega) (by simp)
    first | replace w6 := kcell w6 oA (by omega) (by simp) | replace w6 := kwr w6 oA (by omega) (by simp)
    first | replace z7 := kcell z7 oA (by omega) (by simp) | replace z7 := kwr z7 oA (by omega) (by simp)
    first | replace w7 := kcell w7 oA (by omega) (by simp) | replace w7 := kwr w7 oA (by omega) (by simp)
    have xoB := oB.1
    first | replace k0 := kcell k0 oB (by omega) (by simp) | replace k0 := kwr k0 oB (by omega) (by simp)
    first | replace k1 := kcell k1 oB (by omega) (by simp) | replace k1 := kwr k1 oB (by omega) (by simp)
    first | replace d0 := kcell d0 oB (by omega) (by simp) | replace d0 := kwr d0 oB (by omega) (by simp)
    first | replace d1 := kcell d1 oB (by omega) (by simp) | replace d1 := kwr d1 oB (by omega) (by simp)
    first | replace d2 := kcell d2 oB (by omega) (by simp) | replace d2 := kwr d2 oB (by omega) (by simp)
    first | replace d3 := kcell d3 oB (by omega) (by simp) | replace d3 := kwr d3 oB (by omega) (by simp)
    first | replace d4 := kcell d4 oB (by omega) (by simp) | replace d4 := kwr d4 oB (by omega) (by simp)
    first | replace z6 := kcell z6 oB (by omega) (by simp) | replace z6 := kwr z6 oB (by omega) (by simp)
    first | replace w6 := kcell w6 oB (by omega) (by simp) | replace w6 := kwr w6 oB (by omega) (by simp)
    first | replace z7 := kcell z7 oB (by omega) (by simp) | replace z7 := kwr z7 oB (by omega) (by simp)
    first | replace w7 := kcell w7 oB (by omega) (by simp) | replace w7 := kwr w7 oB (by omega) (by simp)
    have hgB := hgA.keep0 oB
    have hr := (hr.keep0 oA).keep0 oB
    have gu1o := gu1.one
    have gu1c := gu1.cells
    repeat' (first | ((with_reducible show codeW _ _ _ _ (codeI _ _) _ _ _ _); first | (apply st_seq; exact rfl) | (refine st_reg ?_ rfl rfl ?_; exact rfl; (conv => arg 4; whnf); (conv => arg 3; whnf)) | (refine st_dw ?_ rfl rfl ?_ ?_; exact rfl; kernel_rfl; (conv => arg 5; whnf); (conv => arg 3; whnf)) | (refine st_cond ?_ rfl ?_; exact rfl; (conv => arg 1; arg 2; whnf)) | (refine st_block ?_ rfl ?_; exact rfl; (conv => arg 9; arg 1; whnf)) | (apply st_skip; exact rfl) | (refine st_exit ?_ rfl ?_; exact rfl; (conv in exitId _ => whnf)) | (apply st_ret; exact rfl)) | ((with_reducible refine retW_intro rfl ?_); (conv => arg 2; whnf)) | ((with_reducible first | refine iB (fun hb => ?_) (fun hb => ?_) | refine gWt (fun hb => ?_) (fun hb => ?_) | refine gWf (fun hb => ?_) (fun hb => ?_) | refine gXt (fun hb => ?_) (fun hb => ?_) | refine gXf (fun hb => ?_) (fun hb => ?_)) <;> (try simp only [hb])) | ((with_reducible show drawI _ _ _ _ _ _ _ _ _); first | (apply kI_rd; exact rfl) | (apply kI_rg; exact rfl; exact rfl) | (apply kI_cv; exact rfl; kernel_rfl) | (apply kI_al; exact rfl; exact rfl) | (apply kI_ex; exact rfl; kernel_rfl; exact rfl) | (apply kI_eg; exact rfl; kernel_rfl; exact rfl) | (apply kI_nl)) | ((with_reducible show eOk _ _ _ _ _ _); first | (exact eok_nil) | (apply ke_rd; exact rfl) | (apply ke_rg; exact rfl; exact rfl) | (apply ke_cv; exact rfl; kernel_rfl) | (apply ke_al; exact rfl; exact rfl)) | ((with_reducible apply freshIs_new); kernel_rfl) | (simp only [B, xB, F, Nat.reduceLT, Nat.reduceLeDiff, Nat.reduceEqDiff, Nat.reduceAdd, Nat.reduceMul, Nat.reduceSub, ↓reduceIte, eq_self, hoa, hca, ← hBe, k0, k1, d0, d1, d2, d3, d4, gu1o, gu1c, m3, m4, m5]))
    refine ((rCompC q hBb _ A ma (fun b hb => hp1 b (by omega)) hr (by omega) hB.ri).call P).mono P ?_
    rintro v hC ⟨oC, g, u2, rfl, hrC, gu2⟩
    obtain ⟨yb, rfl, hob, hcb⟩ := hrC.1.val
    obtain ⟨hD, hDe, oD, xD, cb, -⟩ := boxed2 hC yb
    have xC := oC.1
    have xoC := oC.1
    first | replace ca := kcell ca oC (by omega) (by simp) | replace ca := kwr ca oC (by omega) (by simp)
    first | replace k0 := kcell k0 oC (by omega) (by simp) | replace k0 := kwr k0 oC (by omega) (by simp)
    first | replace k1 := kcell k1 oC (by omega) (by simp) | replace k1 := kwr k1 oC (by omega) (by simp)
    first | replace d0 := kcell d0 oC (by omega) (by simp) | replace d0 := kwr d0 oC (by omega) (by simp)
    first | replace d1 := kcell d1 oC (by omega) (by simp) | replace d1 := kwr d1 oC (by omega) (by simp)
    first | replace d2 := kcell d2 oC (by omega) (by simp) | replace d2 := kwr d2 oC (by omega) (by simp)
    first | replace d3 := kcell d3 oC (by omega) (by simp) | replace d3 := kwr d3 oC (by omega) (by simp)
    first | replace d4 := kcell d4 oC (by omega) (by simp) | replace d4 := kwr d4 oC (by omega) (by simp)
    first | replace z6 := kcell z6 oC (by omega) (by simp) | replace z6 := kwr z6 oC (by omega) (by simp)
    first | replace w6 := kcell w6 oC (by omega) (by simp) | replace w6 := kwr w6 oC (by omega) (by simp)
    first | replace z7 := kcell z7 oC (by omega) (by simp) | replace z7 := kwr z7 oC (by omega) (by simp)
    first | replace w7 := kcell w7 oC (by omega) (by simp) | replace w7 := kwr w7 oC (by omega) (by simp)
    have xoD := oD.1
    first | replace ca := kcell ca oD (by omega) (by simp) | replace ca := kwr ca oD (by omega) (by simp)
    first | replace k0 := kcell k0 oD (by omega) (by simp) | replace k0 := kwr k0 oD (by omega) (by simp)
    first | replace k1 := kcell k1 oD (by omega) (by simp) | replace k1 := kwr k1 oD (by omega) (by simp)
    first | replace d0 := kcell d0 oD (by omega) (by simp) | replace d0 := kwr d0 oD (by omega) (by simp)
    first | replace d1 := kcell d1 oD (by omega) (by simp) | replace d1 := kwr d1 oD (by omega) (by simp)
    first | replace d2 := kcell d2 oD (by omega) (by simp) | replace d2 := kwr d2 oD (by omega) (by simp)
    first | replace d3 := kcell d3 oD (by omega) (by simp) | replace d3 := kwr d3 oD (by omega) (by simp)
    first | replace d4 := kcell d4 oD (by omega) (by simp) | replace d4 := kwr d4 oD (by omega) (by simp)
    first | replace z6 := kcell z6 oD (by omega) (by simp) | replace z6 := kwr z6 oD (by omega) (by simp)
    first | replace w6 := kcell w6 oD (by omega) (by simp) | replace w6 := kwr w6 oD (by omega) (by simp)
    first | replace z7 := kcell z7 oD (by omega) (by simp) | replace z7 := kwr z7 oD (by omega) (by simp)
    first | replace w7 := kcell w7 oD (by omega) (by simp) | replace w7 := kwr w7 oD (by omega) (by simp)
    have hgD := (hgB.keep0 oC).keep0 oD
    have hrD := hrC.keep0 oD
    have gu2o := gu2.one
    have gu2c := gu2.cells
    obtain ⟨hbo, hkk⟩ := bo_comp hB ma
    rw [hkk] at gu1
    have s1 := ((gu1.slice.only oB (fun _ _ => by simp)).only oC (fun _ _ => by simp)).only oD (fun _ _ => by simp)
    have s2 := gu2.slice.only oD (fun _ _ => by simp)
    unfold PostDone
    repeat' (first | ((with_reducible show codeW _ _ _ _ (codeI _ _) _ _ _ _); first | (apply st_seq; exact rfl) | (refine st_reg ?_ rfl rfl ?_; exact rfl; (conv => arg 4; whnf); (conv => arg 3; whnf)) | (refine st_dw ?_ rfl rfl ?_ ?_; exact rfl; kernel_rfl; (conv => arg 5; whnf); (conv => arg 3; whnf)) | (refine st_cond ?_ rfl ?_; exact rfl; (conv => arg 1; arg 2; whnf)) | (refine st_block ?_ rfl ?_; exact rfl; (conv => arg 9; arg 1; whnf)) | (apply st_skip; exact rfl) | (refine st_exit ?_ rfl ?_; exact rfl; (conv in exitId _ => whnf)) | (apply st_ret; exact rfl)) | ((with_reducible refine retW_intro rfl ?_); (conv => arg 2; whnf)) | ((with_reducible first | refine iB (fun hb => ?_) (fun hb => ?_) | refine gWt (fun hb => ?_) (fun hb => ?_) | refine gWf (fun hb => ?_) (fun hb => ?_) | refine gXt (fun hb => ?_) (fun hb => ?_) | refine gXf (fun hb => ?_) (fun hb => ?_)) <;> (try simp only [hb])) | ((with_reducible show drawI _ _ _ _ _ _ _ _ _); first | (apply kI_rd; exact rfl) | (apply kI_rg; exact rfl; exact rfl) | (apply kI_cv; exact rfl; kernel_rfl) | (apply kI_al; exact rfl; exact rfl) | (apply kI_ex; exact rfl; kernel_rfl; exact rfl) | (apply kI_eg; exact rfl; kernel_rfl; exact rfl) | (apply kI_nl)) | ((with_reducible show eOk _ _ _ _ _ _); first | (exact eok_nil) | (apply ke_rd; exact rfl) | (apply ke_rg; exact rfl; exact rfl) | (apply ke_cv; exact rfl; kernel_rfl) | (apply ke_al; exact rfl; exact rfl)) | ((with_reducible apply freshIs_new); kernel_rfl) | (simp only [B, xB, F, Nat.reduceLT, Nat.reduceLeDiff, Nat.reduceEqDiff, Nat.reduceAdd, Nat.reduceMul, Nat.reduceSub, ↓reduceIte, eq_self, hob, hcb, ← hDe, gu2o, gu2c, ca, cb, m3, m4, m5]))
    refine ((revsC hD u1 u2 _ _ s1 s2 (by rw [List.length_map]; have := isK_len A ma; omega)).call P).mono P ?_
    rintro v hG ⟨rfl, oG⟩
    rw [decide_eq_true rfl]
    have xoG := oG.1
    first | replace ca := kcell ca oG (by omega) (by simp) | replace ca := kwr ca oG (by omega) (by simp)
    first | replace cb := kcell cb oG (by omega) (by simp) | replace cb := kwr cb oG (by omega) (by simp)
    first | replace k0 := kcell k0 oG (by omega) (by simp) | replace k0 := kwr k0 oG (by omega) (by simp)
    first | replace k1 := kcell k1 oG (by omega) (by simp) | replace k1 := kwr k1 oG (by omega) (by simp)
    first | replace d0 := kcell d0 oG (by omega) (by simp) | replace d0 := kwr d0 oG (by omega) (by simp)
    first | replace d1 := kcell d1 oG (by omega) (by simp) | replace d1 := kwr d1 oG (by omega) (by simp)
    first | replace d2 := kcell d2 oG (by omega) (by simp) | replace d2 := kwr d2 oG (by omega) (by simp)
    first | replace d3 := kcell d3 oG (by omega) (by simp) | replace d3 := kwr d3 oG (by omega) (by simp)
    first | replace d4 := kcell d4 oG (by omega) (by simp) | replace d4 := kwr d4 oG (by omega) (by simp)
    first | replace z6 := kcell z6 oG (by omega) (by simp) | replace z6 := kwr z6 oG (by omega) (by simp)
    first | replace w6 := kcell w6 oG (by omega) (by simp) | replace w6 := kwr w6 oG (by omega) (by simp)
    first | replace z7 := kcell z7 oG (by omega) (by simp) | replace z7 := kwr z7 oG (by omega) (by simp)
    first | replace w7 := kcell w7 oG (by omega) (by simp) | replace w7 := kwr w7 oG (by omega) (by simp)
    have oF := ((((o1.t oA).t oB).t oC).t oD).t oG
    obtain ⟨f1, f2, f3⟩ := fin hG ya yb oF w6 w7 _ _ (hgD.keep0 oG) (hrD.keep0 oG) hbo
    obtain ⟨hE, hEe⟩ : ∃ hE, hE = hG.sts (h.nx + 3) 0 [ya] := ⟨_, rfl⟩
    obtain ⟨hF, hFe⟩ : ∃ hF, hF = hE.sts (h.nx + 4) 0 [yb] := ⟨_, rfl⟩
    have w7E : wrAt hE (h.nx + 4) = true := by rw [hEe, wrAt_sts]; exact w7
    have z7E : cellAt hE (h.nx + 4) 0 = some .nilslice := by rw [hEe]; simp only [B, xB, F, Nat.reduceLT, Nat.reduceLeDiff, Nat.reduceEqDiff, Nat.reduceAdd, Nat.reduceMul, Nat.reduceSub, ↓reduceIte, eq_self, cellAt_sts w6, z7]
    have caE : cellAt hE hA.nx 0 = some ya := by rw [hEe, cellAt_sts w6, if_neg (by omega)]; exact ca
    have cbE : cellAt hE hC.nx 0 = some yb := by rw [hEe, cellAt_sts w6, if_neg (by omega)]; exact cb
    have caF : cellAt hF hA.nx 0 = some ya := by rw [hFe, cellAt_sts w7E, if_neg (by omega)]; exact caE
    have cbF : cellAt hF hC.nx 0 = some yb := by rw [hFe, cellAt_sts w7E, if_neg (by omega)]; exact cbE
    have c6F : cellAt hF (h.nx + 3) 0 = some ya := by rw [hFe, cellAt_sts w7E, if_neg (by omega), hEe, cellAt_sts w6, if_pos ⟨rfl, Nat.le_refl _, by simp⟩]; rfl
    have c7F : cellAt hF (h.nx + 4) 0 = some yb := by rw [hFe, cellAt_sts w7E, if_pos ⟨rfl, Nat.le_refl _, by simp⟩]; rfl
    rw [← hEe, ← hFe] at f1 f2 f3
    repeat' (first | ((with_reducible show codeW _ _ _ _ (codeI _ _) _ _ _ _); first | (apply st_seq; exact rfl) | (refine st_reg ?_ rfl rfl ?_; exact rfl; (conv => arg 4; whnf); (conv => arg 3; whnf)) | (refine st_dw ?_ rfl rfl ?_ ?_; exact rfl; kernel_rfl; (conv => arg 5; whnf); (conv => arg 3; whnf)) | (refine st_cond ?_ rfl ?_; exact rfl; (conv => arg 1; arg 2; whnf)) | (refine st_block ?_ rfl ?_; exact rfl; (conv => arg 9; arg 1; whnf)) | (apply st_skip; exact rfl) | (refine st_exit ?_ rfl ?_; exact rfl; (conv in exitId _ => whnf)) | (apply st_ret; exact rfl)) | ((with_reducible refine retW_intro rfl ?_); (conv => arg 2; whnf)) | ((with_reducible first | refine iB (fun hb => ?_) (fun hb => ?_) | refine gWt (fun hb => ?_) (fun hb => ?_) | refine gWf (fun hb => ?_) (fun hb => ?_) | refine gXt (fun hb => ?_) (fun hb => ?_) | refine gXf (fun hb => ?_) (fun hb => ?_)) <;> (try simp only [hb])) | ((with_reducible show drawI _ _ _ _ _ _ _ _ _); first | (apply kI_rd; exact rfl) | (apply kI_rg; exact rfl; exact rfl) | (apply kI_cv; exact rfl; kernel_rfl) | (apply kI_al; exact rfl; exact rfl) | (apply kI_ex; exact rfl; kernel_rfl; exact rfl) | (apply kI_eg; exact rfl; kernel_rfl; exact rfl) | (apply kI_nl)) | ((with_reducible show eOk _ _ _ _ _ _); first | (exact eok_nil) | (apply ke_rd; exact rfl) | (apply ke_rg; exact rfl; exact rfl) | (apply ke_cv; exact rfl; kernel_rfl) | (apply ke_al; exact rfl; exact rfl)) | ((with_reducible apply freshIs_new); kernel_rfl) | (simp only [B, xB, F, Nat.reduceLT, Nat.reduceLeDiff, Nat.reduceEqDiff, Nat.reduceAdd, Nat.reduceMul, Nat.reduceSub, ↓reduceIte, eq_self, put_sts, w6, z6, w7E, z7E, ← hEe, ← hFe, hoa, hob, hca, hcb, ca, cb, caE, cbE, caF, cbF, c6F, c7F, m3]))
    exact ⟨f1, _, _, _, _, rfl, f2, f3, hbo⟩
  · have m5 : decide (wh % 6 = 5) = false := decide_eq_false c5
    repeat' (first | ((with_reducible show codeW _ _ _ _ (codeI _ _) _ _ _ _); first | (apply st_seq; exact rfl) | (refine st_reg ?_ rfl rfl ?_; exact rfl; (conv => arg 4; whnf); (conv => arg 3; whnf)) | (refine st_dw ?_ rfl rfl ?_ ?_; exact rfl; kernel_rfl; (conv => arg 5; whnf); (conv => arg 3; whnf)) | (refine st_cond ?_ rfl ?_; exact rfl; (conv => arg 1; arg 2; whnf)) | (refine st_block ?_ rfl ?_; exact rfl; (conv => arg 9; arg 1; whnf)) | (apply st_skip; exact rfl) | (refine st_exit ?_ rfl ?_; exact rfl; (conv in exitId _ => whnf)) | (apply st_ret; exact rfl)) | ((with_reducible refine retW_intro rfl ?_); (conv => arg 2; whnf)) | ((with_reducible first | refine iB (fun hb => ?_) (fun hb => ?_) | refine gWt (fun hb => ?_) (fun hb => ?_) | refine gWf (fun hb => ?_) (fun hb => ?_) | refine gXt (fun hb => ?_) (fun hb => ?_) | refine gXf (fun hb => ?_) (fun hb => ?_)) <;> (try simp only [hb])) | ((with_reducible show drawI _ _ _ _ _ _ _ _ _); first | (apply kI_rd; exact rfl) | (apply kI_rg; exact rfl; exact rfl) | (apply kI_cv; exact rfl; kernel_rfl) | (apply kI_al; exact rfl; exact rfl) | (apply kI_ex; exact rfl; kernel_rfl; exact rfl) | (apply kI_eg; exact rfl; kernel_rfl; exact rfl) | (apply kI_nl)) | ((with_reducible show eOk _ _ _ _ _ _); first | (exact eok_nil) | (apply ke_rd; exact rfl) | (apply ke_rg; exact rfl; exact rfl) | (apply ke_cv; exact rfl; kernel_rfl) | (apply ke_al; exact rfl; exact rfl)) | ((with_reducible apply freshIs_new); kernel_rfl) | (simp only [B, xB, F, Nat.reduceLT, Nat.reduceLeDiff, Nat.reduceEqDiff, Nat.reduceAdd, Nat.reduceMul, Nat.reduceSub, ↓reduceIte, eq_self, ho1, ho2, ← h1e, d0, d1, d2, d3, d4, k0, b_rem _ _ _ (nat_ne_zero (show 0 < 6 by omega)), tmod_nat, m3, m4, m5]))
    refine ((PutC q h1 _ L (ma, su) hp1 hg hz).call P).mono P ?_
    rintro v hA ⟨oA, g, rfl, hgA⟩
    obtain ⟨ya, rfl, hoa, hca⟩ := hgA.val
    obtain ⟨hBb, hBe, oB, xBb, ca, -⟩ := boxed hA ya
    have xA := oA.1
    have xoA := oA.1
    first | replace k0 := kcell k0 oA (by omega) (by simp) | replace k0 := kwr k0 oA (by omega) (by simp)
    first | replace k1 := kcell k1 oA (by omega) (by simp) | replace k1 := kwr k1 oA (by omega) (by simp)
    first | replace d0 := kcell d0 oA (by omega) (by simp) | replace d0 := kwr d0 oA (by omega) (by simp)
    first | replace d1 := kcell d1 oA (by omega) (by simp) | replace d1 := kwr d1 oA (by omega) (by simp)
    first | replace d2 := kcell d2 oA (by omega) (by simp) | replace d2 := kwr d2 oA (by omega) (by simp)
    first | replace d3 := kcell d3 oA (by omega) (by simp) | replace d3 := kwr d3 oA (by omega) (by simp)
    first | replace d4 := kcell d4 oA (by omega) (by simp) | replace d4 := kwr d4 oA (by omega) (by simp)
    first | replace z6 := kcell z6 oA (by omega) (by simp) | replace z6 := kwr z6 oA (by omega) (by simp)
    first | replace w6 := kcell w6 oA (by omega) (by simp) | replace w6 := kwr w6 oA (by omega) (by simp)
    first | replace z7 := kcell z7 oA (by omega) (by simp) | replace z7 := kwr z7 oA (by omega) (by simp)
    first | replace w7 := kcell w7 oA (by omega) (by simp) | replace w7 := kwr w7 oA (by omega) (by simp)
    have xoB := oB.1
    first | replace k0 := kcell k0 oB (by omega) (by simp) | replace k0 := kwr k0 oB (by omega) (by simp)
    first | replace k1 := kcell k1 oB (by omega) (by simp) | replace k1 := kwr k1 oB (by omega) (by simp)
    first | replace d0 := kcell d0 oB (by omega) (by simp) | replace d0 := kwr d0 oB (by omega) (by simp)
    first | replace d1 := kcell d1 oB (by omega) (by simp) | replace d1 := kwr d1 oB (by omega) (by simp)
    first | replace d2 := kcell d2 oB (by omega) (by simp) | replace d2 := kwr d2 oB (by omega) (by simp)
    first | replace d3 := kcell d3 oB (by omega) (by simp) | replace d3 := kwr d3 oB (by omega) (by simp)
    first | replace d4 := kcell d4 oB (by omega) (by simp) | replace d4 := kwr d4 oB (by omega) (by simp)
    first | replace z6 := kcell z6 oB (by omega) (by simp) | replace z6 := kwr z6 oB (by omega) (by simp)
    first | replace w6 := kcell w6 oB (by omega) (by simp) | replace w6 := kwr w6 oB (by omega) (by simp)
    first | replace z7 := kcell z7 oB (by omega) (by simp) | replace z7 := kwr z7 oB (by omega) (by simp)
    first | replace w7 := kcell w7 oB (by omega) (by simp) | replace w7 := kwr w7 oB (by omega) (by simp)
    have hgB := hgA.keep0 oB
    have hr := (hr.keep0 oA).keep0 oB
    unfold errV
    repeat' (first | ((with_reducible show codeW _ _ _ _ (codeI _ _) _ _ _ _); first | (apply st_seq; exact rfl) | (refine st_reg ?_ rfl rfl ?_; exact rfl; (conv => arg 4; whnf); (conv => arg 3; whnf)) | (refine st_dw ?_ rfl rfl ?_ ?_; exact rfl; kernel_rfl; (conv => arg 5; whnf); (conv => arg 3; whnf)) | (refine st_cond ?_ rfl ?_; exact rfl; (conv => arg 1; arg 2; whnf)) | (refine st_block ?_ rfl ?_; exact rfl; (conv => arg 9; arg 1; whnf)) | (apply st_skip; exact rfl) | (refine st_exit ?_ rfl ?_; exact rfl; (conv in exitId _ => whnf)) | (apply st_ret; exact rfl)) | ((with_reducible refine retW_intro rfl ?_); (conv => arg 2; whnf)) | ((with_reducible first | refine iB (fun hb => ?_) (fun hb => ?_) | refine gWt (fun hb => ?_) (fun hb => ?_) | refine gWf (fun hb => ?_) (fun hb => ?_) | refine gXt (fun hb => ?_) (fun hb => ?_) | refine gXf (fun hb => ?_) (fun hb => ?_)) <;> (try simp only [hb])) | ((with_reducible show drawI _ _ _ _ _ _ _ _ _); first | (apply kI_rd; exact rfl) | (apply kI_rg; exact rfl; exact rfl) | (apply kI_cv; exact rfl; kernel_rfl) | (apply kI_al; exact rfl; exact rfl) | (apply kI_ex; exact rfl; kernel_rfl; exact rfl) | (apply kI_eg; exact rfl; kernel_rfl; exact rfl) | (apply kI_nl)) | ((with_reducible show eOk _ _ _ _ _ _); first | (exact eok_nil) | (apply ke_rd; exact rfl) | (apply ke_rg; exact rfl; exact rfl) | (apply ke_cv; exact rfl; kernel_rfl) | (apply ke_al; exact rfl; exact rfl)) | ((with_reducible apply freshIs_new); kernel_rfl) | (simp only [B, xB, F, Nat.reduceLT, Nat.reduceLeDiff, Nat.reduceEqDiff, Nat.reduceAdd, Nat.reduceMul, Nat.reduceSub, ↓reduceIte, eq_self, hoa, hca, ← hBe, k0, k1, d0, d1, d2, d3, d4, m3, m4, m5]))
    refine ((rPutC q hBb _ A (ma, su) (fun b hb => hp1 b (by omega)) hr (by omega) hx2).call P).mono P ?_
    rintro v hC ⟨oC, g, rfl, hrC⟩
    obtain ⟨yb, rfl, hob, hcb⟩ := hrC.1.val
    obtain ⟨hD, hDe, oD, xD, cb, -⟩ := boxed2 hC yb
    have xC := oC.1
    have xoC := oC.1
    first | replace ca := kcell ca oC (by omega) (by simp) | replace ca := kwr ca oC (by omega) (by simp)
    first | replace k0 := kcell k0 oC (by omega) (by simp) | replace k0 := kwr k0 oC (by omega) (by simp)
    first | replace k1 := kcell k1 oC (by omega) (by simp) | replace k1 := kwr k1 oC (by omega) (by simp)
    first | replace d0 := kcell d0 oC (by omega) (by simp) | replace d0 := kwr d0 oC (by omega) (by simp)
    first | replace d1 := kcell d1 oC (by omega) (by simp) | replace d1 := kwr d1 oC (by omega) (by simp)
    first | replace d2 := kcell d2 oC (by omega) (by simp) | replace d2 := kwr d2 oC (by omega) (by simp)
    first | replace d3 := kcell d3 oC (by omega) (by simp) | replace d3 := kwr d3 oC (by omega) (by simp)
    first | replace d4 := kcell d4 oC (by omega) (by simp) | replace d4 := kwr d4 oC (by omega) (by simp)
    first | replace z6 := kcell z6 oC (by omega) (by simp) | replace z6 := kwr z6 oC (by omega) (by simp)
    first | replace w6 := kcell w6 oC (by omega) (by simp) | replace w6 := kwr w6 oC (by omega) (by simp)
    first | replace z7 := kcell z7 oC (by omega) (by simp) | replace z7 := kwr z7 oC (by omega) (by simp)
    first | replace w7 := kcell w7 oC (by omega) (by simp) | replace w7 := kwr w7 oC (by omega) (by simp)
    have xoD := oD.1
    first | replace ca := kcell ca oD (by omega) (by simp) | replace ca := kwr ca oD (by omega) (by simp)
    first | replace k0 := kcell k0 oD (by omega) (by simp) | replace k0 := kwr k0 oD (by omega) (by simp)
    first | replace k1 := kcell k1 oD (by omega) (by simp) | replace k1 := kwr k1 oD (by omega) (by simp)
    first | replace d0 := kcell d0 oD (by omega) (by simp) | replace d0 := kwr d0 oD (by omega) (by simp)
    first | replace d1 := kcell d1 oD (by omega) (by simp) | replace d1 := kwr d1 oD (by omega) (by simp)
    first | replace d2 := kcell d2 oD (by omega) (by simp) | replace d2 := kwr d2 oD (by omega) (by simp)
    first | replace d3 := kcell d3 oD (by omega) (by simp) | replace d3 := kwr d3 oD (by omega) (by simp)
    first | replace d4 := kcell d4 oD (by omega) (by simp) | replace d4 := kwr d4 oD (by omega) (by simp)
    first | replace z6 := kcell z6 oD (by omega) (by simp) | replace z6 := kwr z6 oD (by omega) (by simp)
    first | replace w6 := kcell w6 oD (by omega) (by simp) | replace w6 := kwr w6 oD (by omega) (by simp)
    first | replace z7 := kcell z7 oD (by omega) (by simp) | replace z7 := kwr z7 oD (by omega) (by simp)
    first | replace w7 := kcell w7 oD (by omega) (by simp) | replace w7 := kwr w7 oD (by omega) (by simp)
    have hgD := (hgB.keep0 oC).keep0 oD
    have hrD := hrC.keep0 oD
    have oF := (((o1.t oA).t oB).t oC).t oD
    obtain ⟨f1, f2, f3⟩ := fin hD ya yb oF w6 w7 _ _ hgD hrD (bo_put hB (ma, su)).1
    have hee := (bo_put hB (ma, su)).2
    rw [hee]
    have e9 : ∀ k : Int, (k == k) = true := fun k => beq_self_eq_true k
    have e8 : ∀ k : Nat, decide (k = k) = true := fun k => decide_eq_true rfl
    obtain ⟨hE, hEe⟩ : ∃ hE, hE = hD.sts (h.nx + 3) 0 [ya] := ⟨_, rfl⟩
    obtain ⟨hF, hFe⟩ : ∃ hF, hF = hE.sts (h.nx + 4) 0 [yb] := ⟨_, rfl⟩
    have w7E : wrAt hE (h.nx + 4) = true := by rw [hEe, wrAt_sts]; exact w7
    have z7E : cellAt hE (h.nx + 4) 0 = some .nilslice := by rw [hEe]; simp only [B, xB, F, Nat.reduceLT, Nat.reduceLeDiff, Nat.reduceEqDiff, Nat.reduceAdd, Nat.reduceMul, Nat.reduceSub, ↓reduceIte, eq_self, cellAt_sts w6, z7]
    have caE : cellAt hE hA.nx 0 = some ya := by rw [hEe, cellAt_sts w6, if_neg (by omega)]; exact ca
    have cbE : cellAt hE hC.nx 0 = some yb := by rw [hEe, cellAt_sts w6, if_neg (by omega)]; exact cb
    have caF : cellAt hF hA.nx 0 = some ya := by rw [hFe, cellAt_sts w7E, if_neg (by omega)]; exact caE
    have cbF : cellAt hF hC.nx 0 = some yb := by rw [hFe, cellAt_sts w7E, if_neg (by omega)]; exact cbE
    have c6F : cellAt hF (h.nx + 3) 0 = some ya := by rw [hFe, cellAt_sts w7E, if_neg (by omega), hEe, cellAt_sts w6, if_pos ⟨rfl, Nat.le_refl _, by simp⟩]; rfl
    have c7F : cellAt hF (h.nx + 4) 0 = some yb := by rw [hFe, cellAt_sts w7E, if_pos ⟨rfl, Nat.le_refl _, by simp⟩]; rfl
    rw [← hEe, ← hFe] at f1 f2 f3
    unfold PostDone errV
    repeat' (first | ((with_reducible show codeW _ _ _ _ (codeI _ _) _ _ _ _); first | (apply st_seq; exact rfl) | (refine st_reg ?_ rfl rfl ?_; exact rfl; (conv => arg 4; whnf); (conv => arg 3; whnf)) | (refine st_dw ?_ rfl rfl ?_ ?_; exact rfl; kernel_rfl; (conv => arg 5; whnf); (conv => arg 3; whnf)) | (refine st_cond ?_ rfl ?_; exact rfl; (conv => arg 1; arg 2; whnf)) | (refine st_block ?_ rfl ?_; exact rfl; (conv => arg 9; arg 1; whnf)) | (apply st_skip; exact rfl) | (refine st_exit ?_ rfl ?_; exact rfl; (conv in exitId _ => whnf)) | (apply st_ret; exact rfl)) | ((with_reducible refine retW_intro rfl ?_); (conv => arg 2; whnf)) | ((with_reducible first | refine iB (fun hb => ?_) (fun hb => ?_) | refine gWt (fun hb => ?_) (fun hb => ?_) | refine gWf (fun hb => ?_) (fun hb => ?_) | refine gXt (fun hb => ?_) (fun hb => ?_) | refine gXf (fun hb => ?_) (fun hb => ?_)) <;> (try simp only [hb])) | ((with_reducible show drawI _ _ _ _ _ _ _ _ _); first | (apply kI_rd; exact rfl) | (apply kI_rg; exact rfl; exact rfl) | (apply kI_cv; exact rfl; kernel_rfl) | (apply kI_al; exact rfl; exact rfl) | (apply kI_ex; exact rfl; kernel_rfl; exact rfl) | (apply kI_eg; exact rfl; kernel_rfl; exact rfl) | (apply kI_nl)) | ((with_reducible show eOk _ _ _ _ _ _); first | (exact eok_nil) | (apply ke_rd; exact rfl) | (apply ke_rg; exact rfl; exact rfl) | (apply ke_cv; exact rfl; kernel_rfl) | (apply ke_al; exact rfl; exact rfl)) | ((with_reducible apply freshIs_new); kernel_rfl) | (simp only [B, xB, F, Nat.reduceLT, Nat.reduceLeDiff, Nat.reduceEqDiff, Nat.reduceAdd, Nat.reduceMul, Nat.reduceSub, ↓reduceIte, eq_self, hob, hcb, ← hDe, put_sts, w6, z6, w7E, z7E, ← hEe, ← hFe, hoa, hob, hca, hcb, ca, cb, caE, cbE, caF, cbF, c6F, c7F, e8, e9, m3, m4, m5]))
    exact ⟨f1, _, _, _, _, rfl, f2, f3, (bo_put hB (ma, su)).1⟩
end
end Go.Proofs.Ytlkngpckibidlaa.W

namespace Go.Proofs.Ytlkngpckibidlaa.W
open Go Go.AX
noncomputable section
set_option maxRecDepth 100000
structure DoN where
  wh : Nat
  a : Nat
  b : Nat
  c : Nat
  d : Nat
def DoN.cs (x : DoN) : List (IntKind × Nat) := [(.u8, x.wh), (.u64, x.a), (.u64, x.b), (.u64, x.c), (.u64, x.d)]
def DoN.ok (x : DoN) : Prop := x.wh < 256 ∧ x.a < 18446744073709551616 ∧ x.b < 18446744073709551616 ∧ x.c < 18446744073709551616 ∧ x.d < 18446744073709551616
def doC (x : DoN) : List AV := x.cs.map natA
theorem doC_len (x : DoN) : (doC x).length = 5 := rfl
theorem doC_at {h : H} {b o n : Nat} {cap : Cap} {l : List DoN} (hs : SliceAt h (.slice b o n cap) n (l.flatMap doC)) {i : Nat} {x : DoN} (hx : l[i]? = some x) :
    cellAt h b (o + i * 5) = some (.int .u8 (.ofNat x.wh)) ∧ cellAt h b (o + (i * 5 + 1)) = some (.int .u64 (.ofNat x.a)) ∧ cellAt h b (o + (i * 5 + 2)) = some (.int .u64 (.ofNat x.b)) ∧ cellAt h b (o + (i * 5 + 3)) = some (.int .u64 (.ofNat x.c)) ∧
    cellAt h b (o + (i * 5 + 4)) = some (.int .u64 (.ofNat x.d)) := by
  have hc := fun j (hj : j < 5) => sl_cell doC_len hs hx hj
  simp only [Nat.add_assoc] at hc
  exact ⟨hc 0 (by omega), hc 1 (by omega), hc 2 (by omega), hc 3 (by omega), hc 4 (by omega)⟩
structure PlI (h0 : H) (vl vm : AV) (l : List DoN) (n : Nat) (ds : List Nat) (tm : T AV) (h : H) (i : Nat) (y5 y6 : AV) (L : List Gn) (A : List Ch) : Prop where
  ds : ds = []
  nn : n = l.length - i
  ii : i ≤ l.length ∧ i ≤ 60
  t0 : tm.get 0 = some vl
  t1 : tm.get 1 = some vm
  t5 : tm.get 5 = some (.ptr h0.nx 0)
  t6 : tm.get 6 = some (.ptr (h0.nx + 1) 0)
  t7 : tm.get 7 = some (.int .i64 (.ofNat i))
  oo : Only h0 h []
  nx : h0.nx + 2 ≤ h.nx
  c5 : cellAt h h0.nx 0 = some y5
  w5 : wrAt h h0.nx = true
  c6 : cellAt h (h0.nx + 1) 0 = some y6
  w6 : wrAt h (h0.nx + 1) = true
  gg : GensP (fun b => h0.nx + 2 ≤ b) h (.agg [y5]) L
  rr : RefP (fun b => h0.nx + 2 ≤ b) h (.agg [y6]) A
  bo : Bo i L A
theorem RefP.mono {p q : Nat → Prop} {h : H} {v : AV} {A : List Ch} (hr : RefP p h v A) (hpq : ∀ b, b < h.nx → p b → q b) : RefP q h v A := by
  obtain ⟨⟨s, rfl, hs, hn⟩, hp⟩ := hr
  exact ⟨⟨s, rfl, hs, hn⟩, fun y e b hb => by cases e; exact hpq b (hs.blk b hb) (hp _ rfl b hb)⟩
theorem freshAt {h : H} {t : TypeId} {l : List AV} {b : Nat} (hb : b = h.nx) (hs : T.same (T.ofRow l) (T.ofRow l) = true) : freshIs t l ((h.newCells t l).t.get b) = true := by subst hb; exact freshIs_new hs
structure PmI (hs : H) (b5 : Nat) (vm : AV) (ms : List Nat) (n : Nat) (ds : List Nat) (tm : T AV) (h : H) (i : Nat) : Prop where
  ds : ds = []
  nn : n = ms.length - i
  ii : i ≤ ms.length ∧ i ≤ 20
  t1 : tm.get 1 = some vm
  t5 : tm.get 5 = some (.ptr b5 0)
  t6 : tm.get 6 = some (.ptr (b5 + 1) 0)
  t13 : tm.get 13 = some (.int .i64 (.ofNat i))
  oo : Only hs h []
theorem playsL (hs : H) (tm : T AV) (b5 : Nat) (vm : AV) (ms : List Nat) (y5 y6 : AV) (L : List Gn) (A : List Ch) (t1 : tm.get 1 = some vm) (t5 : tm.get 5 = some (.ptr b5 0)) (t6 : tm.get 6 = some (.ptr (b5 + 1) 0)) (t13 : tm.get 13 = some (.int .i64 (.ofNat 0)))
    (hb : b5 + 1 < hs.nx) (c5 : cellAt hs b5 0 = some y5) (c6 : cellAt hs (b5 + 1) 0 = some y6) (gg : GensAt hs (.agg [y5]) L) (rr : RefAt hs (.agg [y6]) A) (hw : WF L) (ha : all L = A) (hz : A.length ≤ 900) (sm : SliceAt hs vm ms.length (ms.map n64)) :
    codeW P 5 84 none (codeI (bodyC Try.f5) [0, 1, 0, 1, 1, 1, 1]) [] tm hs (blkK 2 (seqK (codeK P 5 84 none (codeI (bodyC Try.f5) [1, 1, 1, 1, 1]) (retK P Try.f5 PostTrue)) (retK P Try.f5 PostTrue))) := by
  have hlm := sm.len (P := P) u49
  refine st_loop (fun n ds tm h' => ∃ i, PmI hs b5 vm ms n ds tm h' i) ms.length rfl ⟨0, rfl, rfl, ⟨Nat.zero_le _, by omega⟩, t1, t5, t6, t13, Only.refl _ _⟩ (fun n ds tm h hI => ?_)
  clear t1 t5 t6 t13
  obtain ⟨i, rfl, rfl, ⟨i1, i2⟩, t1, t5, t6, t13, oo⟩ := hI
  have xoo := oo.1
  first | replace c5 := kcell c5 oo (by omega) (by simp) | replace c5 := kwr c5 oo (by omega) (by simp)
  first | replace c6 := kcell c6 oo (by omega) (by simp) | replace c6 := kwr c6 oo (by omega) (by simp)
  replace gg := gg.keep oo
  replace rr := rr.keep oo
  by_cases hi : i < ms.length ∧ i < 20
  · have d1 : decide (i < ms.length) = true := decide_eq_true hi.1
    have d2 : decide (i < 20) = true := decide_eq_true hi.2
    have lt1 : (i < ms.length) = True := by simp [hi.1]
    have wi : wrapF .i64 (Int.ofNat i + Int.ofNat 1) = Int.ofNat (i + 1) := i64_add (by omega)
    obtain ⟨m, hm⟩ : ∃ m, ms[i]? = some m := ⟨_, List.getElem?_eq_getElem hi.1⟩
    have sm' := sm.only oo (fun _ _ => by simp)
    obtain ⟨b, o, cap, rfl, hb', hcl⟩ := sm'.place (by omega)
    have p0 := hcl i (by rw [List.length_map]; exact hi.1)
    rw [List.getElem?_map, hm] at p0
    have p0 : cellAt h b (o + i) = some (.int .u64 (.ofNat m)) := p0
    repeat' (first | ((with_reducible show codeW _ _ _ _ (codeI _ _) _ _ _ _); first | (apply st_seq; exact rfl) | (refine st_reg ?_ rfl rfl ?_; exact rfl; (conv => arg 4; whnf); (conv => arg 3; whnf)) | (refine st_dp ord5_0 ?_ rfl rfl ?_; exact rfl; (conv => arg 4; whnf); (conv => arg 3; whnf)) | (refine st_dw ?_ rfl rfl ?_ ?_; exact rfl; kernel_rfl; (conv => arg 5; whnf); (conv => arg 3; whnf)) | (refine st_cond ?_ rfl ?_; exact rfl; (conv => arg 1; arg 2; whnf)) | (refine st_block ?_ rfl ?_; exact rfl; (conv => arg 9; arg 1; whnf)) | (apply st_skip; exact rfl) | (refine st_exit ?_ rfl ?_; exact rfl; (conv in exitId _ => whnf)) | (apply st_ret; exact rfl)) | ((with_reducible refine retW_intro rfl ?_); (conv => arg 2; whnf)) | ((with_reducible first | refine iB (fun hb => ?_) (fun hb => ?_) | refine gWt (fun hb => ?_) (fun hb => ?_) | refine gWf (fun hb => ?_) (fun hb => ?_) | refine gXt (fun hb => ?_) (fun hb => ?_) | refine gXf (fun hb => ?_) (fun hb => ?_)) <;> (try simp only [hb])) | ((with_reducible show drawP _ _ _ _ _ _ _ _ _); first | (apply kP_rd; exact rfl; exact rfl) | (apply kP_rg; exact rfl; exact rfl; exact rfl) | (apply kP_cv; exact rfl; exact rfl; kernel_rfl) | (apply kP_al; exact rfl; exact rfl; exact rfl) | (apply kP_ex; exact rfl; exact rfl; kernel_rfl; exact rfl) | (apply kP_eg; exact rfl; exact rfl; kernel_rfl; exact rfl) | (apply kP_nl)) | ((with_reducible show drawI _ _ _ _ _ _ _ _ _); first | (apply kI_rd; exact rfl) | (apply kI_rg; exact rfl; exact rfl) | (apply kI_cv; exact rfl; kernel_rfl) | (apply kI_al; exact rfl; exact rfl) | (apply kI_ex; exact rfl; kernel_rfl; exact rfl) | (apply kI_eg; exact rfl; kernel_rfl; exact rfl) | (apply kI_nl)) | ((with_reducible show eOk _ _ _ _ _ _); first | (exact eok_nil) | (apply ke_rd; exact rfl) | (apply ke_rg; exact rfl; exact rfl) | (apply ke_cv; exact rfl; kernel_rfl) | (apply ke_al; exact rfl; exact rfl)) | ((with_reducible apply freshIs_new); kernel_rfl) | (simp only [B, xB, F, Nat.reduceLT, Nat.reduceLeDiff, Nat.reduceEqDiff, Nat.reduceAdd, Nat.reduceMul, Nat.reduceSub, ↓reduceIte, eq_self, t1, t5, t6, t13, hlm, d1, d2, lt1, c5, c6, p0, Nat.mul_one]))
    refine ((sameC h _ _ L A m gg rr ha hw hz).call P).mono P ?_
    rintro v h2 ⟨rfl, o2⟩
    repeat' (first | ((with_reducible show codeW _ _ _ _ (codeI _ _) _ _ _ _); first | (apply st_seq; exact rfl) | (refine st_reg ?_ rfl rfl ?_; exact rfl; (conv => arg 4; whnf); (conv => arg 3; whnf)) | (refine st_dp ord5_0 ?_ rfl rfl ?_; exact rfl; (conv => arg 4; whnf); (conv => arg 3; whnf)) | (refine st_dw ?_ rfl rfl ?_ ?_; exact rfl; kernel_rfl; (conv => arg 5; whnf); (conv => arg 3; whnf)) | (refine st_cond ?_ rfl ?_; exact rfl; (conv => arg 1; arg 2; whnf)) | (refine st_block ?_ rfl ?_; exact rfl; (conv => arg 9; arg 1; whnf)) | (apply st_skip; exact rfl) | (refine st_exit ?_ rfl ?_; exact rfl; (conv in exitId _ => whnf)) | (apply st_ret; exact rfl)) | ((with_reducible refine retW_intro rfl ?_); (conv => arg 2; whnf)) | ((with_reducible first | refine iB (fun hb => ?_) (fun hb => ?_) | refine gWt (fun hb => ?_) (fun hb => ?_) | refine gWf (fun hb => ?_) (fun hb => ?_) | refine gXt (fun hb => ?_) (fun hb => ?_) | refine gXf (fun hb => ?_) (fun hb => ?_)) <;> (try simp only [hb])) | ((with_reducible show drawP _ _ _ _ _ _ _ _ _); first | (apply kP_rd; exact rfl; exact rfl) | (apply kP_rg; exact rfl; exact rfl; exact rfl) | (apply kP_cv; exact rfl; exact rfl; kernel_rfl) | (apply kP_al; exact rfl; exact rfl; exact rfl) | (apply kP_ex; exact rfl; exact rfl; kernel_rfl; exact rfl) | (apply kP_eg; exact rfl; exact rfl; kernel_rfl; exact rfl) | (apply kP_nl)) | ((with_reducible show drawI _ _ _ _ _ _ _ _ _); first | (apply kI_rd; exact rfl) | (apply kI_rg; exact rfl; exact rfl) | (apply kI_cv; exact rfl; kernel_rfl) | (apply kI_al; exact rfl; exact rfl) | (apply kI_ex; exact rfl; kernel_rfl; exact rfl) | (apply kI_eg; exact rfl; kernel_rfl; exact rfl) | (apply kI_nl)) | ((with_reducible show eOk _ _ _ _ _ _); first | (exact eok_nil) | (apply ke_rd; exact rfl) | (apply ke_rg; exact rfl; exact rfl) | (apply ke_cv; exact rfl; kernel_rfl) | (apply ke_al; exact rfl; exact rfl)) | ((with_reducible apply freshIs_new); kernel_rfl) | (simp only [B, xB, F, Nat.reduceLT, Nat.reduceLeDiff, Nat.reduceEqDiff, Nat.reduceAdd, Nat.reduceMul, Nat.reduceSub, ↓reduceIte, eq_self, t1, t5, t6, t13, hlm, d1, d2, lt1, c5, c6, p0, Bool.not_true, wi]))
    exact ⟨ms.length - (i + 1), by omega, i + 1, rfl, rfl, ⟨by omega, by omega⟩, by simp only [B, xB, F, Nat.reduceLT, Nat.reduceLeDiff, Nat.reduceEqDiff, Nat.reduceAdd, Nat.reduceMul, Nat.reduceSub, ↓reduceIte, eq_self, t1], by simp only [B, xB, F, Nat.reduceLT, Nat.reduceLeDiff, Nat.reduceEqDiff, Nat.reduceAdd, Nat.reduceMul, Nat.reduceSub, ↓reduceIte, eq_self, t5], by simp only [B, xB, F, Nat.reduceLT, Nat.reduceLeDiff, Nat.reduceEqDiff, Nat.reduceAdd, Nat.reduceMul, Nat.reduceSub, ↓reduceIte, eq_self, t6], by simp only [B, xB, F, Nat.reduceLT, Nat.reduceLeDiff, Nat.reduceEqDiff, Nat.reduceAdd, Nat.reduceMul, Nat.reduceSub, ↓reduceIte, eq_self], oo.t o2⟩
  · by_cases hi1 : i < ms.length
    · have d1 : decide (i < ms.length) = true := decide_eq_true hi1
      have d2 : decide (i < 20) = false := decide_eq_false (fun e => hi ⟨hi1, e⟩)
      repeat' (first | ((with_reducible show codeW _ _ _ _ (codeI _ _) _ _ _ _); first | (apply st_seq; exact rfl) | (refine st_reg ?_ rfl rfl ?_; exact rfl; (conv => arg 4; whnf); (conv => arg 3; whnf)) | (refine st_dp ord5_0 ?_ rfl rfl ?_; exact rfl; (conv => arg 4; whnf); (conv => arg 3; whnf)) | (refine st_dw ?_ rfl rfl ?_ ?_; exact rfl; kernel_rfl; (conv => arg 5; whnf); (conv => arg 3; whnf)) | (refine st_cond ?_ rfl ?_; exact rfl; (conv => arg 1; arg 2; whnf)) | (refine st_block ?_ rfl ?_; exact rfl; (conv => arg 9; arg 1; whnf)) | (apply st_skip; exact rfl) | (refine st_exit ?_ rfl ?_; exact rfl; (conv in exitId _ => whnf)) | (apply st_ret; exact rfl)) | ((with_reducible refine retW_intro rfl ?_); (conv => arg 2; whnf)) | ((with_reducible first | refine iB (fun hb => ?_) (fun hb => ?_) | refine gWt (fun hb => ?_) (fun hb => ?_) | refine gWf (fun hb => ?_) (fun hb => ?_) | refine gXt (fun hb => ?_) (fun hb => ?_) | refine gXf (fun hb => ?_) (fun hb => ?_)) <;> (try simp only [hb])) | ((with_reducible show drawP _ _ _ _ _ _ _ _ _); first | (apply kP_rd; exact rfl; exact rfl) | (apply kP_rg; exact rfl; exact rfl; exact rfl) | (apply kP_cv; exact rfl; exact rfl; kernel_rfl) | (apply kP_al; exact rfl; exact rfl; exact rfl) | (apply kP_ex; exact rfl; exact rfl; kernel_rfl; exact rfl) | (apply kP_eg; exact rfl; exact rfl; kernel_rfl; exact rfl) | (apply kP_nl)) | ((with_reducible show drawI _ _ _ _ _ _ _ _ _); first | (apply kI_rd; exact rfl) | (apply kI_rg; exact rfl; exact rfl) | (apply kI_cv; exact rfl; kernel_rfl) | (apply kI_al; exact rfl; exact rfl) | (apply kI_ex; exact rfl; kernel_rfl; exact rfl) | (apply kI_eg; exact rfl; kernel_rfl; exact rfl) | (apply kI_nl)) | ((with_reducible show eOk _ _ _ _ _ _); first | (exact eok_nil) | (apply ke_rd; exact rfl) | (apply ke_rg; exact rfl; exact rfl) | (apply ke_cv; exact rfl; kernel_rfl) | (apply ke_al; exact rfl; exact rfl)) | ((with_reducible apply freshIs_new); kernel_rfl) | (simp only [B, xB, F, Nat.reduceLT, Nat.reduceLeDiff, Nat.reduceEqDiff, Nat.reduceAdd, Nat.reduceMul, Nat.reduceSub, ↓reduceIte, eq_self, t1, t5, t6, t13, hlm, d1, d2]))
      refine worksC _ ?_
      repeat' (first | ((with_reducible show codeW _ _ _ _ (codeI _ _) _ _ _ _); first | (apply st_seq; exact rfl) | (refine st_reg ?_ rfl rfl ?_; exact rfl; (conv => arg 4; whnf); (conv => arg 3; whnf)) | (refine st_dp ord5_0 ?_ rfl rfl ?_; exact rfl; (conv => arg 4; whnf); (conv => arg 3; whnf)) | (refine st_dw ?_ rfl rfl ?_ ?_; exact rfl; kernel_rfl; (conv => arg 5; whnf); (conv => arg 3; whnf)) | (refine st_cond ?_ rfl ?_; exact rfl; (conv => arg 1; arg 2; whnf)) | (refine st_block ?_ rfl ?_; exact rfl; (conv => arg 9; arg 1; whnf)) | (apply st_skip; exact rfl) | (refine st_exit ?_ rfl ?_; exact rfl; (conv in exitId _ => whnf)) | (apply st_ret; exact rfl)) | ((with_reducible refine retW_intro rfl ?_); (conv => arg 2; whnf)) | ((with_reducible first | refine iB (fun hb => ?_) (fun hb => ?_) | refine gWt (fun hb => ?_) (fun hb => ?_) | refine gWf (fun hb => ?_) (fun hb => ?_) | refine gXt (fun hb => ?_) (fun hb => ?_) | refine gXf (fun hb => ?_) (fun hb => ?_)) <;> (try simp only [hb])) | ((with_reducible show drawP _ _ _ _ _ _ _ _ _); first | (apply kP_rd; exact rfl; exact rfl) | (apply kP_rg; exact rfl; exact rfl; exact rfl) | (apply kP_cv; exact rfl; exact rfl; kernel_rfl) | (apply kP_al; exact rfl; exact rfl; exact rfl) | (apply kP_ex; exact rfl; exact rfl; kernel_rfl; exact rfl) | (apply kP_eg; exact rfl; exact rfl; kernel_rfl; exact rfl) | (apply kP_nl)) | ((with_reducible show drawI _ _ _ _ _ _ _ _ _); first | (apply kI_rd; exact rfl) | (apply kI_rg; exact rfl; exact rfl) | (apply kI_cv; exact rfl; kernel_rfl) | (apply kI_al; exact rfl; exact rfl) | (apply kI_ex; exact rfl; kernel_rfl; exact rfl) | (apply kI_eg; exact rfl; kernel_rfl; exact rfl) | (apply kI_nl)) | ((with_reducible show eOk _ _ _ _ _ _); first | (exact eok_nil) | (apply ke_rd; exact rfl) | (apply ke_rg; exact rfl; exact rfl) | (apply ke_cv; exact rfl; kernel_rfl) | (apply ke_al; exact rfl; exact rfl)) | ((with_reducible apply freshIs_new); kernel_rfl) | (simp only [B, xB, F, Nat.reduceLT, Nat.reduceLeDiff, Nat.reduceEqDiff, Nat.reduceAdd, Nat.reduceMul, Nat.reduceSub, ↓reduceIte, eq_self]))
      rfl
    · have d1 : decide (i < ms.length) = false := decide_eq_false hi1
      repeat' (first | ((with_reducible show codeW _ _ _ _ (codeI _ _) _ _ _ _); first | (apply st_seq; exact rfl) | (refine st_reg ?_ rfl rfl ?_; exact rfl; (conv => arg 4; whnf); (conv => arg 3; whnf)) | (refine st_dp ord5_0 ?_ rfl rfl ?_; exact rfl; (conv => arg 4; whnf); (conv => arg 3; whnf)) | (refine st_dw ?_ rfl rfl ?_ ?_; exact rfl; kernel_rfl; (conv => arg 5; whnf); (conv => arg 3; whnf)) | (refine st_cond ?_ rfl ?_; exact rfl; (conv => arg 1; arg 2; whnf)) | (refine st_block ?_ rfl ?_; exact rfl; (conv => arg 9; arg 1; whnf)) | (apply st_skip; exact rfl) | (refine st_exit ?_ rfl ?_; exact rfl; (conv in exitId _ => whnf)) | (apply st_ret; exact rfl)) | ((with_reducible refine retW_intro rfl ?_); (conv => arg 2; whnf)) | ((with_reducible first | refine iB (fun hb => ?_) (fun hb => ?_) | refine gWt (fun hb => ?_) (fun hb => ?_) | refine gWf (fun hb => ?_) (fun hb => ?_) | refine gXt (fun hb => ?_) (fun hb => ?_) | refine gXf (fun hb => ?_) (fun hb => ?_)) <;> (try simp only [hb])) | ((with_reducible show drawP _ _ _ _ _ _ _ _ _); first | (apply kP_rd; exact rfl; exact rfl) | (apply kP_rg; exact rfl; exact rfl; exact rfl) | (apply kP_cv; exact rfl; exact rfl; kernel_rfl) | (apply kP_al; exact rfl; exact rfl; exact rfl) | (apply kP_ex; exact rfl; exact rfl; kernel_rfl; exact rfl) | (apply kP_eg; exact rfl; exact rfl; kernel_rfl; exact rfl) | (apply kP_nl)) | ((with_reducible show drawI _ _ _ _ _ _ _ _ _); first | (apply kI_rd; exact rfl) | (apply kI_rg; exact rfl; exact rfl) | (apply kI_cv; exact rfl; kernel_rfl) | (apply kI_al; exact rfl; exact rfl) | (apply kI_ex; exact rfl; kernel_rfl; exact rfl) | (apply kI_eg; exact rfl; kernel_rfl; exact rfl) | (apply kI_nl)) | ((with_reducible show eOk _ _ _ _ _ _); first | (exact eok_nil) | (apply ke_rd; exact rfl) | (apply ke_rg; exact rfl; exact rfl) | (apply ke_cv; exact rfl; kernel_rfl) | (apply ke_al; exact rfl; exact rfl)) | ((with_reducible apply freshIs_new); kernel_rfl) | (simp only [B, xB, F, Nat.reduceLT, Nat.reduceLeDiff, Nat.reduceEqDiff, Nat.reduceAdd, Nat.reduceMul, Nat.reduceSub, ↓reduceIte, eq_self, t1, t5, t6, t13, hlm, d1]))
      refine worksC _ ?_
      repeat' (first | ((with_reducible show codeW _ _ _ _ (codeI _ _) _ _ _ _); first | (apply st_seq; exact rfl) | (refine st_reg ?_ rfl rfl ?_; exact rfl; (conv => arg 4; whnf); (conv => arg 3; whnf)) | (refine st_dp ord5_0 ?_ rfl rfl ?_; exact rfl; (conv => arg 4; whnf); (conv => arg 3; whnf)) | (refine st_dw ?_ rfl rfl ?_ ?_; exact rfl; kernel_rfl; (conv => arg 5; whnf); (conv => arg 3; whnf)) | (refine st_cond ?_ rfl ?_; exact rfl; (conv => arg 1; arg 2; whnf)) | (refine st_block ?_ rfl ?_; exact rfl; (conv => arg 9; arg 1; whnf)) | (apply st_skip; exact rfl) | (refine st_exit ?_ rfl ?_; exact rfl; (conv in exitId _ => whnf)) | (apply st_ret; exact rfl)) | ((with_reducible refine retW_intro rfl ?_); (conv => arg 2; whnf)) | ((with_reducible first | refine iB (fun hb => ?_) (fun hb => ?_) | refine gWt (fun hb => ?_) (fun hb => ?_) | refine gWf (fun hb => ?_) (fun hb => ?_) | refine gXt (fun hb => ?_) (fun hb => ?_) | refine gXf (fun hb => ?_) (fun hb => ?_)) <;> (try simp only [hb])) | ((with_reducible show drawP _ _ _ _ _ _ _ _ _); first | (apply kP_rd; exact rfl; exact rfl) | (apply kP_rg; exact rfl; exact rfl; exact rfl) | (apply kP_cv; exact rfl; exact rfl; kernel_rfl) | (apply kP_al; exact rfl; exact rfl; exact rfl) | (apply kP_ex; exact rfl; exact rfl; kernel_rfl; exact rfl) | (apply kP_eg; exact rfl; exact rfl; kernel_rfl; exact rfl) | (apply kP_nl)) | ((with_reducible show drawI _ _ _ _ _ _ _ _ _); first | (apply kI_rd; exact rfl) | (apply kI_rg; exact rfl; exact rfl) | (apply kI_cv; exact rfl; kernel_rfl) | (apply kI_al; exact rfl; exact rfl) | (apply kI_ex; exact rfl; kernel_rfl; exact rfl) | (apply kI_eg; exact rfl; kernel_rfl; exact rfl) | (apply kI_nl)) | ((with_reducible show eOk _ _ _ _ _ _); first | (exact eok_nil) | (apply ke_rd; exact rfl) | (apply ke_rg; exact rfl; exact rfl) | (apply ke_cv; exact rfl; kernel_rfl) | (apply ke_al; exact rfl; exact rfl)) | ((with_reducible apply freshIs_new); kernel_rfl) | (simp only [B, xB, F, Nat.reduceLT, Nat.reduceLeDiff, Nat.reduceEqDiff, Nat.reduceAdd, Nat.reduceMul, Nat.reduceSub, ↓reduceIte, eq_self]))
      rfl
set_option maxHeartbeats 4000000 in
theorem playsW (h0 : H) (vl vm : AV) (l : List DoN) (ms : List Nat) (sl : SliceAt h0 vl l.length (l.flatMap doC)) (hl : ∀ x, x ∈ l → x.ok) (sm : SliceAt h0 vm ms.length (ms.map n64)) :
    codeW P 5 84 none (bodyC Try.f5) [] (T.fill .e 0 [vl, vm]) h0 (retK P Try.f5 PostTrue) := by
  have hlen := sl.len (P := P) u48
  have hlm := sm.len (P := P) u49
  refine codeW_root ?_
  repeat' (first | ((with_reducible show codeW _ _ _ _ (codeI _ _) _ _ _ _); first | (apply st_seq; exact rfl) | (refine st_reg ?_ rfl rfl ?_; exact rfl; (conv => arg 4; whnf); (conv => arg 3; whnf)) | (refine st_dp ord5_0 ?_ rfl rfl ?_; exact rfl; (conv => arg 4; whnf); (conv => arg 3; whnf)) | (refine st_dw ?_ rfl rfl ?_ ?_; exact rfl; kernel_rfl; (conv => arg 5; whnf); (conv => arg 3; whnf)) | (refine st_cond ?_ rfl ?_; exact rfl; (conv => arg 1; arg 2; whnf)) | (refine st_block ?_ rfl ?_; exact rfl; (conv => arg 9; arg 1; whnf)) | (apply st_skip; exact rfl) | (refine st_exit ?_ rfl ?_; exact rfl; (conv in exitId _ => whnf)) | (apply st_ret; exact rfl)) | ((with_reducible refine retW_intro rfl ?_); (conv => arg 2; whnf)) | ((with_reducible first | refine iB (fun hb => ?_) (fun hb => ?_) | refine gWt (fun hb => ?_) (fun hb => ?_) | refine gWf (fun hb => ?_) (fun hb => ?_) | refine gXt (fun hb => ?_) (fun hb => ?_) | refine gXf (fun hb => ?_) (fun hb => ?_)) <;> (try simp only [hb])) | ((with_reducible show drawP _ _ _ _ _ _ _ _ _); first | (apply kP_rd; exact rfl; exact rfl) | (apply kP_rg; exact rfl; exact rfl; exact rfl) | (apply kP_cv; exact rfl; exact rfl; kernel_rfl) | (apply kP_al; exact rfl; exact rfl; exact rfl) | (apply kP_ex; exact rfl; exact rfl; kernel_rfl; exact rfl) | (apply kP_eg; exact rfl; exact rfl; kernel_rfl; exact rfl) | (apply kP_nl)) | ((with_reducible show drawI _ _ _ _ _ _ _ _ _); first | (apply kI_rd; exact rfl) | (apply kI_rg; exact rfl; exact rfl) | (apply kI_cv; exact rfl; kernel_rfl) | (apply kI_al; exact rfl; exact rfl) | (apply kI_ex; exact rfl; kernel_rfl; exact rfl) | (apply kI_eg; exact rfl; kernel_rfl; exact rfl) | (apply kI_nl)) | ((with_reducible show eOk _ _ _ _ _ _); first | (exact eok_nil) | (apply ke_rd; exact rfl) | (apply ke_rg; exact rfl; exact rfl) | (apply ke_cv; exact rfl; kernel_rfl) | (apply ke_al; exact rfl; exact rfl)) | ((with_reducible apply freshIs_new); kernel_rfl) | (simp only [B, xB, F, Nat.reduceLT, Nat.reduceLeDiff, Nat.reduceEqDiff, Nat.reduceAdd, Nat.reduceMul, Nat.reduceSub, ↓reduceIte, eq_self]))
  obtain ⟨h1, h1e⟩ : ∃ h1, h1 = (h0.newCells 26 [.nilslice]).newCells 52 [.nilslice] := ⟨_, rfl⟩
  have o1 : Only h0 h1 [] := by rw [h1e]; exact ((Only.refl _ _).new _ _).new _ _
  have x1 : h1.nx = h0.nx + 2 := by rw [h1e]; rfl
  have c5 : cellAt h1 h0.nx 0 = some .nilslice := by rw [h1e]; simp only [B, xB, F, Nat.reduceLT, Nat.reduceLeDiff, Nat.reduceEqDiff, Nat.reduceAdd, Nat.reduceMul, Nat.reduceSub, ↓reduceIte, eq_self]
  have w5 : wrAt h1 h0.nx = true := by rw [h1e]; simp only [B, xB, F, Nat.reduceLT, Nat.reduceLeDiff, Nat.reduceEqDiff, Nat.reduceAdd, Nat.reduceMul, Nat.reduceSub, ↓reduceIte, eq_self]
  have c6 : cellAt h1 (h0.nx + 1) 0 = some .nilslice := by rw [h1e]; simp only [B, xB, F, Nat.reduceLT, Nat.reduceLeDiff, Nat.reduceEqDiff, Nat.reduceAdd, Nat.reduceMul, Nat.reduceSub, ↓reduceIte, eq_self]
  have w6 : wrAt h1 (h0.nx + 1) = true := by rw [h1e]; simp only [B, xB, F, Nat.reduceLT, Nat.reduceLeDiff, Nat.reduceEqDiff, Nat.reduceAdd, Nat.reduceMul, Nat.reduceSub, ↓reduceIte, eq_self]
  rw [← h1e]
  refine st_loop (fun n ds tm h => ∃ i y5 y6 L A, PlI h0 vl vm l n ds tm h i y5 y6 L A) l.length rfl
    ⟨0, .nilslice, .nilslice, [], [], rfl, rfl, ⟨Nat.zero_le _, by omega⟩, by simp only [B, xB, F, Nat.reduceLT, Nat.reduceLeDiff, Nat.reduceEqDiff, Nat.reduceAdd, Nat.reduceMul, Nat.reduceSub, ↓reduceIte, eq_self], by simp only [B, xB, F, Nat.reduceLT, Nat.reduceLeDiff, Nat.reduceEqDiff, Nat.reduceAdd, Nat.reduceMul, Nat.reduceSub, ↓reduceIte, eq_self], by simp only [B, xB, F, Nat.reduceLT, Nat.reduceLeDiff, Nat.reduceEqDiff, Nat.reduceAdd, Nat.reduceMul, Nat.reduceSub, ↓reduceIte, eq_self], by simp only [B, xB, F, Nat.reduceLT, Nat.reduceLeDiff, Nat.reduceEqDiff, Nat.reduceAdd, Nat.reduceMul, Nat.reduceSub, ↓reduceIte, eq_self], by simp only [B, xB, F, Nat.reduceLT, Nat.reduceLeDiff, Nat.reduceEqDiff, Nat.reduceAdd, Nat.reduceMul, Nat.reduceSub, ↓reduceIte, eq_self], o1, by omega, c5, w5, c6, w6, GensP.nil _ _, RefP.nil _ _, ⟨wf_nil, rfl, List.Pairwise.nil, Nat.le_refl _⟩⟩ (fun n ds tm h hI => ?_)
  clear c5 w5 c6 w6
  obtain ⟨i, y5, y6, L, A, rfl, rfl, ⟨i1, i2⟩, t0, t1, t5, t6, t7, oo, nx, c5, w5, c6, w6, gg, rr, bo⟩ := hI
  obtain ⟨_, e5, ho5, hc5⟩ := gg.val
  cases e5
  obtain ⟨_, e6, ho6, hc6⟩ := rr.1.val
  cases e6
  by_cases hi : i < l.length ∧ i < 60
  · have d1 : decide (i < l.length) = true := decide_eq_true hi.1
    have d2 : decide (i < 60) = true := decide_eq_true hi.2
    have lt1 : (i < l.length) = True := by simp [hi.1]
    have wi : wrapF .i64 (Int.ofNat i + Int.ofNat 1) = Int.ofNat (i + 1) := i64_add (by omega)
    obtain ⟨x, hx⟩ : ∃ x, l[i]? = some x := ⟨_, List.getElem?_eq_getElem hi.1⟩
    have hxo := hl x (List.mem_of_getElem? hx)
    obtain ⟨b, o, cap, rfl, hb, -⟩ := sl.place (by omega)
    obtain ⟨p0, p1, p2, p3, p4⟩ := doC_at sl hx
    first | replace p0 := kcell p0 oo (by omega) (by simp) | replace p0 := kwr p0 oo (by omega) (by simp)
    first | replace p1 := kcell p1 oo (by omega) (by simp) | replace p1 := kwr p1 oo (by omega) (by simp)
    first | replace p2 := kcell p2 oo (by omega) (by simp) | replace p2 := kwr p2 oo (by omega) (by simp)
    first | replace p3 := kcell p3 oo (by omega) (by simp) | replace p3 := kwr p3 oo (by omega) (by simp)
    first | replace p4 := kcell p4 oo (by omega) (by simp) | replace p4 := kwr p4 oo (by omega) (by simp)
    have c05' := c5
    have c06' := c6
    have n5 : (h0.nx = h.nx) = False := by simp; omega
    have n51 : (h0.nx = h.nx + 1) = False := by simp; omega
    have n6 : (h0.nx + 1 = h.nx) = False := by simp; omega
    obtain ⟨hA, hAe⟩ : ∃ hA, hA = (h.newCells 26 [.nilslice]).newCells 52 [.nilslice] := ⟨_, rfl⟩
    have oA : Only h hA [] := by rw [hAe]; exact ((Only.refl _ _).new _ _).new _ _
    have xA' : hA.nx = h.nx + 2 := by rw [hAe]; rfl
    have G8 : hA.t.get h.nx = (h.newCells 26 [.nilslice]).t.get h.nx := by rw [hAe]; exact get_new _ _ _ (by rw [nx_new]; omega)
    have F9 : freshIs 52 [.nilslice] (hA.t.get (h.nx + 1)) = true := by rw [hAe]; exact freshAt (by rw [nx_new]) (by kernel_rfl)
    have z8 : cellAt hA h.nx 0 = some .nilslice := by rw [hAe]; simp only [B, xB, F, Nat.reduceLT, Nat.reduceLeDiff, Nat.reduceEqDiff, Nat.reduceAdd, Nat.reduceMul, Nat.reduceSub, ↓reduceIte, eq_self]
    have u8' : wrAt hA h.nx = true := by rw [hAe]; simp only [B, xB, F, Nat.reduceLT, Nat.reduceLeDiff, Nat.reduceEqDiff, Nat.reduceAdd, Nat.reduceMul, Nat.reduceSub, ↓reduceIte, eq_self]
    have z9 : cellAt hA (h.nx + 1) 0 = some .nilslice := by rw [hAe]; simp only [B, xB, F, Nat.reduceLT, Nat.reduceLeDiff, Nat.reduceEqDiff, Nat.reduceAdd, Nat.reduceMul, Nat.reduceSub, ↓reduceIte, eq_self]
    have u9 : wrAt hA (h.nx + 1) = true := by rw [hAe]; simp only [B, xB, F, Nat.reduceLT, Nat.reduceLeDiff, Nat.reduceEqDiff, Nat.reduceAdd, Nat.reduceMul, Nat.reduceSub, ↓reduceIte, eq_self]
    obtain ⟨hB, hBe⟩ : ∃ hB, hB = hA.sts h.nx 0 [y5] := ⟨_, rfl⟩
    obtain ⟨hC, hCe⟩ : ∃ hC, hC = hB.sts (h.nx + 1) 0 [y6] := ⟨_, rfl⟩
    have u9B : wrAt hB (h.nx + 1) = true := by rw [hBe, wrAt_sts]; exact u9
    have z9B : cellAt hB (h.nx + 1) 0 = some .nilslice := by rw [hBe, cellAt_sts u8', if_neg (by omega)]; exact z9
    have F9B : freshIs 52 [.nilslice] (hB.t.get (h.nx + 1)) = true := by rw [hBe, get_sts _ _ _ _ (by omega)]; exact F9
    have oB : Only h hB [] := by rw [hBe]; exact oA.sts (.inr (Nat.le_refl _))
    have oC : Only h hC [] := by rw [hCe]; exact oB.sts (.inr (by omega))
    have xC : hC.nx = h.nx + 2 := by rw [hCe, nx_sts, hBe, nx_sts]; exact xA'
    have y8 : cellAt hC h.nx 0 = some y5 := by rw [hCe, cellAt_sts u9B, if_neg (by omega), hBe, cellAt_sts u8', if_pos ⟨rfl, Nat.le_refl _, by simp⟩]; rfl
    have y9 : cellAt hC (h.nx + 1) 0 = some y6 := by rw [hCe, cellAt_sts u9B, if_pos ⟨rfl, Nat.le_refl _, by simp⟩]; rfl
    have c5A := kcell c5 oA (by omega) (by simp)
    have c6A := kcell c6 oA (by omega) (by simp)
    have c5B := kcell c5 oB (by omega) (by simp)
    have c6B := kcell c6 oB (by omega) (by simp)
    have xoC := oC.1
    first | replace c5 := kcell c5 oC (by omega) (by simp) | replace c5 := kwr c5 oC (by omega) (by simp)
    first | replace w5 := kcell w5 oC (by omega) (by simp) | replace w5 := kwr w5 oC (by omega) (by simp)
    first | replace c6 := kcell c6 oC (by omega) (by simp) | replace c6 := kwr c6 oC (by omega) (by simp)
    first | replace w6 := kcell w6 oC (by omega) (by simp) | replace w6 := kwr w6 oC (by omega) (by simp)
    first | replace p0 := kcell p0 oC (by omega) (by simp) | replace p0 := kwr p0 oC (by omega) (by simp)
    first | replace p1 := kcell p1 oC (by omega) (by simp) | replace p1 := kwr p1 oC (by omega) (by simp)
    first | replace p2 := kcell p2 oC (by omega) (by simp) | replace p2 := kwr p2 oC (by omega) (by simp)
    first | replace p3 := kcell p3 oC (by omega) (by simp) | replace p3 := kwr p3 oC (by omega) (by simp)
    first | replace p4 := kcell p4 oC (by omega) (by simp) | replace p4 := kwr p4 oC (by omega) (by simp)
    have gg0 := gg
    have rr0 := rr
    have gg := gg.keep0 oC
    have rr := rr.keep0 oC
    have n5' : (h0.nx = hC.nx) = False := by simp; omega
    have n51' : (h0.nx = hC.nx + 1) = False := by simp; omega
    have n6' : (h0.nx + 1 = hC.nx) = False := by simp; omega
    have n61' : (h0.nx + 1 = hC.nx + 1) = False := by simp; omega
    have nb : (b = hC.nx) = False := by simp; omega
    have nb1 : (b = hC.nx + 1) = False := by simp; omega
    obtain ⟨hD, hDe⟩ : ∃ hD, hD = (hC.newCells 26 [.nilslice]).newCells 52 [.nilslice] := ⟨_, rfl⟩
    have oD : Only hC hD [] := by rw [hDe]; exact ((Only.refl _ _).new _ _).new _ _
    have xD : hD.nx = hC.nx + 2 := by rw [hDe]; rfl
    have GD8 : hD.t.get hC.nx = (hC.newCells 26 [.nilslice]).t.get hC.nx := by rw [hDe]; exact get_new _ _ _ (by rw [nx_new]; omega)
    have FD9 : freshIs 52 [.nilslice] (hD.t.get (hC.nx + 1)) = true := by rw [hDe]; exact freshAt (by rw [nx_new]) (by kernel_rfl)
    have c05 := c05'
    have c06 := c06'
    have c5D := kcell c5 oD (by omega) (by simp)
    have c6D := kcell c6 oD (by omega) (by simp)
    have p0D := kcell p0 oD (by omega) (by simp)
    have p1D := kcell p1 oD (by omega) (by simp)
    have p2D := kcell p2 oD (by omega) (by simp)
    have p3D := kcell p3 oD (by omega) (by simp)
    have p4D := kcell p4 oD (by omega) (by simp)
    repeat' (first | ((with_reducible show codeW _ _ _ _ (codeI _ _) _ _ _ _); first | (apply st_seq; exact rfl) | (refine st_reg ?_ rfl rfl ?_; exact rfl; (conv => arg 4; whnf); (conv => arg 3; whnf)) | (refine st_dp ord5_0 ?_ rfl rfl ?_; exact rfl; (conv => arg 4; whnf); (conv => arg 3; whnf)) | (refine st_dw ?_ rfl rfl ?_ ?_; exact rfl; kernel_rfl; (conv => arg 5; whnf); (conv => arg 3; whnf)) | (refine st_cond ?_ rfl ?_; exact rfl; (conv => arg 1; arg 2; whnf)) | (refine st_block ?_ rfl ?_; exact rfl; (conv => arg 9; arg 1; whnf)) | (apply st_skip; exact rfl) | (refine st_exit ?_ rfl ?_; exact rfl; (conv in exitId _ => whnf)) | (apply st_ret; exact rfl)) | ((with_reducible refine retW_intro rfl ?_); (conv => arg 2; whnf)) | ((with_reducible first | refine iB (fun hb => ?_) (fun hb => ?_) | refine gWt (fun hb => ?_) (fun hb => ?_) | refine gWf (fun hb => ?_) (fun hb => ?_) | refine gXt (fun hb => ?_) (fun hb => ?_) | refine gXf (fun hb => ?_) (fun hb => ?_)) <;> (try simp only [hb])) | ((with_reducible show drawP _ _ _ _ _ _ _ _ _); first | (apply kP_rd; exact rfl; exact rfl) | (apply kP_rg; exact rfl; exact rfl; exact rfl) | (apply kP_cv; exact rfl; exact rfl; kernel_rfl) | (apply kP_al; exact rfl; exact rfl; exact rfl) | (apply kP_ex; exact rfl; exact rfl; kernel_rfl; exact rfl) | (apply kP_eg; exact rfl; exact rfl; kernel_rfl; exact rfl) | (apply kP_nl)) | ((with_reducible show drawI _ _ _ _ _ _ _ _ _); first | (apply kI_rd; exact rfl) | (apply kI_rg; exact rfl; exact rfl) | (apply kI_cv; exact rfl; kernel_rfl) | (apply kI_al; exact rfl; exact rfl) | (apply kI_ex; exact rfl; kernel_rfl; exact rfl) | (apply kI_eg; exact rfl; kernel_rfl; exact rfl) | (apply kI_nl)) | ((with_reducible show eOk _ _ _ _ _ _); first | (exact eok_nil) | (apply ke_rd; exact rfl) | (apply ke_rg; exact rfl; exact rfl) | (apply ke_cv; exact rfl; kernel_rfl) | (apply ke_al; exact rfl; exact rfl)) | ((with_reducible apply freshIs_new); kernel_rfl) | (simp only [B, xB, F, Nat.reduceLT, Nat.reduceLeDiff, Nat.reduceEqDiff, Nat.reduceAdd, Nat.reduceMul, Nat.reduceSub, ↓reduceIte, eq_self, t0, t1, t5, t6, t7, hlen, d1, d2, lt1, ← hAe, c05, c06, c5A, c6A, c5B, c6B, n5, n51, n6, G8, F9, F9B, u8', z8, u9B, z9B, put_sts, ← hBe, ← hCe, ho5, ho6, hc5, hc6, c5, c6, p0, p1, p2, p3, p4, n5', n51', n6', n61', nb, nb1, ← hDe, GD8, FD9, c5D, c6D, p0D, p1D, p2D, p3D, p4D]))
    obtain ⟨pp, hpp⟩ : ∃ pp : Nat → Prop, pp = fun b => h0.nx + 2 ≤ b ∧ b ≠ hC.nx ∧ b ≠ hC.nx + 1 := ⟨_, rfl⟩
    have ggD : GensP pp hD (.agg [y5]) L := (gg0.mono fun b hb q => by rw [hpp]; exact ⟨q, by omega, by omega⟩).keep0 (oC.t oD)
    have rrD : RefP pp hD (.agg [y6]) A := (rr0.mono fun b hb q => by rw [hpp]; exact ⟨q, by omega, by omega⟩).keep0 (oC.t oD)
    refine ((doneC pp i hD _ _ L A (x.wh, (x.a, x.b), x.c, x.d) (fun b hb => by rw [hpp]; exact ⟨by omega, by omega, by omega⟩) ggD rrD bo (by omega) hxo).call P).mono P ?_
    rintro v hE ⟨oE, g, r, L', A', rfl, ggE, rrE, bo'⟩
    obtain ⟨g5, rfl, hg5o, hg5c⟩ := ggE.val
    obtain ⟨g6, rfl, hg6o, hg6c⟩ := rrE.1.val
    have xE := oE.1
    have GE8 : hE.t.get hC.nx = (hC.newCells 26 [.nilslice]).t.get hC.nx := by rw [oE.2 _ (by omega) (by simp)]; exact GD8
    have FE9 : freshIs 52 [.nilslice] (hE.t.get (hC.nx + 1)) = true := by rw [oE.2 _ (by omega) (by simp)]; exact FD9
    have zE8 : cellAt hE hC.nx 0 = some .nilslice := by rw [cellAt_of_get GE8]; simp only [B, xB, F, Nat.reduceLT, Nat.reduceLeDiff, Nat.reduceEqDiff, Nat.reduceAdd, Nat.reduceMul, Nat.reduceSub, ↓reduceIte, eq_self]
    have uE8 : wrAt hE hC.nx = true := by rw [wrAt_of_get GE8]; simp only [B, xB, F, Nat.reduceLT, Nat.reduceLeDiff, Nat.reduceEqDiff, Nat.reduceAdd, Nat.reduceMul, Nat.reduceSub, ↓reduceIte, eq_self]
    have zE9 : cellAt hE (hC.nx + 1) 0 = some .nilslice := by
      have : cellAt hD (hC.nx + 1) 0 = some .nilslice := by rw [hDe]; simp only [B, xB, F, Nat.reduceLT, Nat.reduceLeDiff, Nat.reduceEqDiff, Nat.reduceAdd, Nat.reduceMul, Nat.reduceSub, ↓reduceIte, eq_self]
      exact kcell this oE (by omega) (by simp)
    have uE9 : wrAt hE (hC.nx + 1) = true := by
      have : wrAt hD (hC.nx + 1) = true := by rw [hDe]; simp only [B, xB, F, Nat.reduceLT, Nat.reduceLeDiff, Nat.reduceEqDiff, Nat.reduceAdd, Nat.reduceMul, Nat.reduceSub, ↓reduceIte, eq_self]
      exact kwr this oE (by omega) (by simp)
    obtain ⟨hF, hFe⟩ : ∃ hF, hF = hE.sts hC.nx 0 [g5] := ⟨_, rfl⟩
    obtain ⟨hG, hGe⟩ : ∃ hG, hG = hF.sts (hC.nx + 1) 0 [g6] := ⟨_, rfl⟩
    have uF9 : wrAt hF (hC.nx + 1) = true := by rw [hFe, wrAt_sts]; exact uE9
    have zF9 : cellAt hF (hC.nx + 1) 0 = some .nilslice := by rw [hFe, cellAt_sts uE8, if_neg (by omega)]; exact zE9
    have FF9 : freshIs 52 [.nilslice] (hF.t.get (hC.nx + 1)) = true := by rw [hFe, get_sts _ _ _ _ (by omega)]; exact FE9
    have oF : Only hC hF [] := by rw [hFe]; exact (oD.t oE).sts (.inr (Nat.le_refl _))
    have oG : Only hC hG [] := by rw [hGe]; exact oF.sts (.inr (by omega))
    have xG : hG.nx = hE.nx := by rw [hGe, nx_sts, hFe, nx_sts]
    have oEG : Only hE hG [hC.nx, hC.nx + 1] := by rw [hGe, hFe]; exact ((Only.refl _ _).sts (.inl (by simp))).sts (.inl (by simp))
    have hSE : ∀ c, c ∈ [hC.nx, hC.nx + 1] → ¬ pp c := fun c hc => by
      rw [hpp]
      simp only [List.mem_cons, List.mem_nil_iff, or_false] at hc
      rcases hc with rfl | rfl
      · exact fun e => e.2.1 rfl
      · exact fun e => e.2.2 rfl
    have ggG := ggE.keep oEG hSE
    have rrG := rrE.keep oEG hSE
    have c10 : cellAt hG hC.nx 0 = some g5 := by rw [hGe, cellAt_sts uF9, if_neg (by omega), hFe, cellAt_sts uE8, if_pos ⟨rfl, Nat.le_refl _, by simp⟩]; rfl
    have c11 : cellAt hG (hC.nx + 1) 0 = some g6 := by rw [hGe, cellAt_sts uF9, if_pos ⟨rfl, Nat.le_refl _, by simp⟩]; rfl
    have oCE := oD.t oE
    have c5E := kcell c5 oCE (by omega) (by simp)
    have c6E := kcell c6 oCE (by omega) (by simp)
    have c5F := kcell c5 oF (by omega) (by simp)
    have c6F := kcell c6 oF (by omega) (by simp)
    have p0E := kcell p0 oCE (by omega) (by simp)
    have p1E := kcell p1 oCE (by omega) (by simp)
    have p2E := kcell p2 oCE (by omega) (by simp)
    have p3E := kcell p3 oCE (by omega) (by simp)
    have p4E := kcell p4 oCE (by omega) (by simp)
    have p0F := kcell p0 oF (by omega) (by simp)
    have p1F := kcell p1 oF (by omega) (by simp)
    have p2F := kcell p2 oF (by omega) (by simp)
    have p3F := kcell p3 oF (by omega) (by simp)
    have p4F := kcell p4 oF (by omega) (by simp)
    have y8G := kcell y8 oG (by omega) (by simp)
    have y9G := kcell y9 oG (by omega) (by simp)
    have p1G := kcell p1 oG (by omega) (by simp)
    have c5G := kcell c5 oG (by omega) (by simp)
    have c6G := kcell c6 oG (by omega) (by simp)
    have w5G := kwr w5 oG (by omega) (by simp)
    have w6G := kwr w6 oG (by omega) (by simp)
    repeat' (first | ((with_reducible show codeW _ _ _ _ (codeI _ _) _ _ _ _); first | (apply st_seq; exact rfl) | (refine st_reg ?_ rfl rfl ?_; exact rfl; (conv => arg 4; whnf); (conv => arg 3; whnf)) | (refine st_dp ord5_0 ?_ rfl rfl ?_; exact rfl; (conv => arg 4; whnf); (conv => arg 3; whnf)) | (refine st_dw ?_ rfl rfl ?_ ?_; exact rfl; kernel_rfl; (conv => arg 5; whnf); (conv => arg 3; whnf)) | (refine st_cond ?_ rfl ?_; exact rfl; (conv => arg 1; arg 2; whnf)) | (refine st_block ?_ rfl ?_; exact rfl; (conv => arg 9; arg 1; whnf)) | (apply st_skip; exact rfl) | (refine st_exit ?_ rfl ?_; exact rfl; (conv in exitId _ => whnf)) | (apply st_ret; exact rfl)) | ((with_reducible refine retW_intro rfl ?_); (conv => arg 2; whnf)) | ((with_reducible first | refine iB (fun hb => ?_) (fun hb => ?_) | refine gWt (fun hb => ?_) (fun hb => ?_) | refine gWf (fun hb => ?_) (fun hb => ?_) | refine gXt (fun hb => ?_) (fun hb => ?_) | refine gXf (fun hb => ?_) (fun hb => ?_)) <;> (try simp only [hb])) | ((with_reducible show drawP _ _ _ _ _ _ _ _ _); first | (apply kP_rd; exact rfl; exact rfl) | (apply kP_rg; exact rfl; exact rfl; exact rfl) | (apply kP_cv; exact rfl; exact rfl; kernel_rfl) | (apply kP_al; exact rfl; exact rfl; exact rfl) | (apply kP_ex; exact rfl; exact rfl; kernel_rfl; exact rfl) | (apply kP_eg; exact rfl; exact rfl; kernel_rfl; exact rfl) | (apply kP_nl)) | ((with_reducible show drawI _ _ _ _ _ _ _ _ _); first | (apply kI_rd; exact rfl) | (apply kI_rg; exact rfl; exact rfl) | (apply kI_cv; exact rfl; kernel_rfl) | (apply kI_al; exact rfl; exact rfl) | (apply kI_ex; exact rfl; kernel_rfl; exact rfl) | (apply kI_eg; exact rfl; kernel_rfl; exact rfl) | (apply kI_nl)) | ((with_reducible show eOk _ _ _ _ _ _); first | (exact eok_nil) | (apply ke_rd; exact rfl) | (apply ke_rg; exact rfl; exact rfl) | (apply ke_cv; exact rfl; kernel_rfl) | (apply ke_al; exact rfl; exact rfl)) | ((with_reducible apply freshIs_new); kernel_rfl) | (simp only [B, xB, F, Nat.reduceLT, Nat.reduceLeDiff, Nat.reduceEqDiff, Nat.reduceAdd, Nat.reduceMul, Nat.reduceSub, ↓reduceIte, eq_self, t0, t1, t5, t6, t7, lt1, GE8, FE9, FF9, zE8, uE8, uF9, zF9, put_sts, ← hFe, ← hGe, hg5o, hg5c, hg6o, hg6c, c5E, c6E, c5F, c6F, p0E, p1E, p2E, p3E, p4E, p0F, p1F, p2F, p3F, p4F, y8G, y9G, p1G, Bool.not_true]))
    have ggL : GensAt hG (.agg [y5]) L := (gg.keep0 oG).at
    have rrL : RefAt hG (.agg [y6]) A := (rr.keep0 oG).1
    have hbl := bo.le
    have hbl' := bo'.le
    refine ((sameC hG _ _ L A x.a ggL rrL bo.al bo.wf (by omega)).call P).mono P ?_
    rintro v hH ⟨rfl, oH⟩
    have ggH := ggG.keep0 oH
    have rrH := rrG.keep0 oH
    have xoH := oH.1
    first | replace c10 := kcell c10 oH (by omega) (by simp) | replace c10 := kwr c10 oH (by omega) (by simp)
    first | replace c11 := kcell c11 oH (by omega) (by simp) | replace c11 := kwr c11 oH (by omega) (by simp)
    first | replace y8G := kcell y8G oH (by omega) (by simp) | replace y8G := kwr y8G oH (by omega) (by simp)
    first | replace y9G := kcell y9G oH (by omega) (by simp) | replace y9G := kwr y9G oH (by omega) (by simp)
    first | replace p1G := kcell p1G oH (by omega) (by simp) | replace p1G := kwr p1G oH (by omega) (by simp)
    first | replace c5G := kcell c5G oH (by omega) (by simp) | replace c5G := kwr c5G oH (by omega) (by simp)
    first | replace c6G := kcell c6G oH (by omega) (by simp) | replace c6G := kwr c6G oH (by omega) (by simp)
    first | replace w5G := kcell w5G oH (by omega) (by simp) | replace w5G := kwr w5G oH (by omega) (by simp)
    first | replace w6G := kcell w6G oH (by omega) (by simp) | replace w6G := kwr w6G oH (by omega) (by simp)
    repeat' (first | ((with_reducible show codeW _ _ _ _ (codeI _ _) _ _ _ _); first | (apply st_seq; exact rfl) | (refine st_reg ?_ rfl rfl ?_; exact rfl; (conv => arg 4; whnf); (conv => arg 3; whnf)) | (refine st_dp ord5_0 ?_ rfl rfl ?_; exact rfl; (conv => arg 4; whnf); (conv => arg 3; whnf)) | (refine st_dw ?_ rfl rfl ?_ ?_; exact rfl; kernel_rfl; (conv => arg 5; whnf); (conv => arg 3; whnf)) | (refine st_cond ?_ rfl ?_; exact rfl; (conv => arg 1; arg 2; whnf)) | (refine st_block ?_ rfl ?_; exact rfl; (conv => arg 9; arg 1; whnf)) | (apply st_skip; exact rfl) | (refine st_exit ?_ rfl ?_; exact rfl; (conv in exitId _ => whnf)) | (apply st_ret; exact rfl)) | ((with_reducible refine retW_intro rfl ?_); (conv => arg 2; whnf)) | ((with_reducible first | refine iB (fun hb => ?_) (fun hb => ?_) | refine gWt (fun hb => ?_) (fun hb => ?_) | refine gWf (fun hb => ?_) (fun hb => ?_) | refine gXt (fun hb => ?_) (fun hb => ?_) | refine gXf (fun hb => ?_) (fun hb => ?_)) <;> (try simp only [hb])) | ((with_reducible show drawP _ _ _ _ _ _ _ _ _); first | (apply kP_rd; exact rfl; exact rfl) | (apply kP_rg; exact rfl; exact rfl; exact rfl) | (apply kP_cv; exact rfl; exact rfl; kernel_rfl) | (apply kP_al; exact rfl; exact rfl; exact rfl) | (apply kP_ex; exact rfl; exact rfl; kernel_rfl; exact rfl) | (apply kP_eg; exact rfl; exact rfl; kernel_rfl; exact rfl) | (apply kP_nl)) | ((with_reducible show drawI _ _ _ _ _ _ _ _ _); first | (apply kI_rd; exact rfl) | (apply kI_rg; exact rfl; exact rfl) | (apply kI_cv; exact rfl; kernel_rfl) | (apply kI_al; exact rfl; exact rfl) | (apply kI_ex; exact rfl; kernel_rfl; exact rfl) | (apply kI_eg; exact rfl; kernel_rfl; exact rfl) | (apply kI_nl)) | ((with_reducible show eOk _ _ _ _ _ _); first | (exact eok_nil) | (apply ke_rd; exact rfl) | (apply ke_rg; exact rfl; exact rfl) | (apply ke_cv; exact rfl; kernel_rfl) | (apply ke_al; exact rfl; exact rfl)) | ((with_reducible apply freshIs_new); kernel_rfl) | (simp only [B, xB, F, Nat.reduceLT, Nat.reduceLeDiff, Nat.reduceEqDiff, Nat.reduceAdd, Nat.reduceMul, Nat.reduceSub, ↓reduceIte, eq_self, t0, t1, t5, t6, t7, lt1, y8G, y9G, p1G, c10, c11, Bool.not_true]))
    refine ((sameC hH _ _ L' A' x.a ggH.at rrH.1 bo'.al bo'.wf (by omega)).call P).mono P ?_
    rintro v hI ⟨rfl, oI⟩
    have ggI := ggH.keep0 oI
    have rrI := rrH.keep0 oI
    have xoI := oI.1
    first | replace c10 := kcell c10 oI (by omega) (by simp) | replace c10 := kwr c10 oI (by omega) (by simp)
    first | replace c11 := kcell c11 oI (by omega) (by simp) | replace c11 := kwr c11 oI (by omega) (by simp)
    first | replace y8G := kcell y8G oI (by omega) (by simp) | replace y8G := kwr y8G oI (by omega) (by simp)
    first | replace y9G := kcell y9G oI (by omega) (by simp) | replace y9G := kwr y9G oI (by omega) (by simp)
    first | replace p1G := kcell p1G oI (by omega) (by simp) | replace p1G := kwr p1G oI (by omega) (by simp)
    first | replace c5G := kcell c5G oI (by omega) (by simp) | replace c5G := kwr c5G oI (by omega) (by simp)
    first | replace c6G := kcell c6G oI (by omega) (by simp) | replace c6G := kwr c6G oI (by omega) (by simp)
    first | replace w5G := kcell w5G oI (by omega) (by simp) | replace w5G := kwr w5G oI (by omega) (by simp)
    first | replace w6G := kcell w6G oI (by omega) (by simp) | replace w6G := kwr w6G oI (by omega) (by simp)
    obtain ⟨hJ, hJe⟩ : ∃ hJ, hJ = hI.sts h0.nx 0 [g5] := ⟨_, rfl⟩
    obtain ⟨hK, hKe⟩ : ∃ hK, hK = hJ.sts (h0.nx + 1) 0 [g6] := ⟨_, rfl⟩
    have w6J : wrAt hJ (h0.nx + 1) = true := by rw [hJe, wrAt_sts]; exact w6G
    have w5J : wrAt hJ h0.nx = true := by rw [hJe, wrAt_sts]; exact w5G
    have c6J : cellAt hJ (h0.nx + 1) 0 = some y6 := by rw [hJe, cellAt_sts w5G, if_neg (by omega)]; exact c6G
    have c11J : cellAt hJ (hC.nx + 1) 0 = some g6 := by rw [hJe, cellAt_sts w5G, if_neg (by omega)]; exact c11
    have c5K : cellAt hK h0.nx 0 = some g5 := by rw [hKe, cellAt_sts w6J, if_neg (by omega), hJe, cellAt_sts w5G, if_pos ⟨rfl, Nat.le_refl _, by simp⟩]; rfl
    have c6K : cellAt hK (h0.nx + 1) 0 = some g6 := by rw [hKe, cellAt_sts w6J, if_pos ⟨rfl, Nat.le_refl _, by simp⟩]; rfl
    have w5K : wrAt hK h0.nx = true := by rw [hKe, wrAt_sts]; exact w5J
    have w6K : wrAt hK (h0.nx + 1) = true := by rw [hKe, wrAt_sts]; exact w6J
    have oIK : Only hI hK [h0.nx, h0.nx + 1] := by rw [hKe, hJe]; exact ((Only.refl _ _).sts (.inl (by simp))).sts (.inl (by simp))
    have hSI : ∀ c, c ∈ [h0.nx, h0.nx + 1] → ¬ pp c := fun c hc => by
      rw [hpp]
      simp only [List.mem_cons, List.mem_nil_iff, or_false] at hc
      rcases hc with rfl | rfl
      · exact fun e => by have := e.1; omega
      · exact fun e => by have := e.1; omega
    have oI0 : Only h0 hI [] := (((oo.t oC).t oG).t oH).t oI
    have oK0 : Only h0 hK [] := by rw [hKe, hJe]; exact (oI0.sts (.inr (Nat.le_refl _))).sts (.inr (by omega))
    have xK : hK.nx = hI.nx := by rw [hKe, nx_sts, hJe, nx_sts]
    repeat' (first | ((with_reducible show codeW _ _ _ _ (codeI _ _) _ _ _ _); first | (apply st_seq; exact rfl) | (refine st_reg ?_ rfl rfl ?_; exact rfl; (conv => arg 4; whnf); (conv => arg 3; whnf)) | (refine st_dp ord5_0 ?_ rfl rfl ?_; exact rfl; (conv => arg 4; whnf); (conv => arg 3; whnf)) | (refine st_dw ?_ rfl rfl ?_ ?_; exact rfl; kernel_rfl; (conv => arg 5; whnf); (conv => arg 3; whnf)) | (refine st_cond ?_ rfl ?_; exact rfl; (conv => arg 1; arg 2; whnf)) | (refine st_block ?_ rfl ?_; exact rfl; (conv => arg 9; arg 1; whnf)) | (apply st_skip; exact rfl) | (refine st_exit ?_ rfl ?_; exact rfl; (conv in exitId _ => whnf)) | (apply st_ret; exact rfl)) | ((with_reducible refine retW_intro rfl ?_); (conv => arg 2; whnf)) | ((with_reducible first | refine iB (fun hb => ?_) (fun hb => ?_) | refine gWt (fun hb => ?_) (fun hb => ?_) | refine gWf (fun hb => ?_) (fun hb => ?_) | refine gXt (fun hb => ?_) (fun hb => ?_) | refine gXf (fun hb => ?_) (fun hb => ?_)) <;> (try simp only [hb])) | ((with_reducible show drawP _ _ _ _ _ _ _ _ _); first | (apply kP_rd; exact rfl; exact rfl) | (apply kP_rg; exact rfl; exact rfl; exact rfl) | (apply kP_cv; exact rfl; exact rfl; kernel_rfl) | (apply kP_al; exact rfl; exact rfl; exact rfl) | (apply kP_ex; exact rfl; exact rfl; kernel_rfl; exact rfl) | (apply kP_eg; exact rfl; exact rfl; kernel_rfl; exact rfl) | (apply kP_nl)) | ((with_reducible show drawI _ _ _ _ _ _ _ _ _); first | (apply kI_rd; exact rfl) | (apply kI_rg; exact rfl; exact rfl) | (apply kI_cv; exact rfl; kernel_rfl) | (apply kI_al; exact rfl; exact rfl) | (apply kI_ex; exact rfl; kernel_rfl; exact rfl) | (apply kI_eg; exact rfl; kernel_rfl; exact rfl) | (apply kI_nl)) | ((with_reducible show eOk _ _ _ _ _ _); first | (exact eok_nil) | (apply ke_rd; exact rfl) | (apply ke_rg; exact rfl; exact rfl) | (apply ke_cv; exact rfl; kernel_rfl) | (apply ke_al; exact rfl; exact rfl)) | ((with_reducible apply freshIs_new); kernel_rfl) | (simp only [B, xB, F, Nat.reduceLT, Nat.reduceLeDiff, Nat.reduceEqDiff, Nat.reduceAdd, Nat.reduceMul, Nat.reduceSub, ↓reduceIte, eq_self, t0, t1, t5, t6, t7, lt1, c10, c11, c11J, put_sts, w5G, c5G, w6J, c6J, ← hJe, ← hKe, hg5o, hg5c, hg6o, hg6c, wi]))
    exact ⟨l.length - (i + 1), by omega, i + 1, g5, g6, L', A', rfl, rfl, ⟨by omega, by omega⟩, by simp only [B, xB, F, Nat.reduceLT, Nat.reduceLeDiff, Nat.reduceEqDiff, Nat.reduceAdd, Nat.reduceMul, Nat.reduceSub, ↓reduceIte, eq_self, t0], by simp only [B, xB, F, Nat.reduceLT, Nat.reduceLeDiff, Nat.reduceEqDiff, Nat.reduceAdd, Nat.reduceMul, Nat.reduceSub, ↓reduceIte, eq_self, t1], by simp only [B, xB, F, Nat.reduceLT, Nat.reduceLeDiff, Nat.reduceEqDiff, Nat.reduceAdd, Nat.reduceMul, Nat.reduceSub, ↓reduceIte, eq_self, t5], by simp only [B, xB, F, Nat.reduceLT, Nat.reduceLeDiff, Nat.reduceEqDiff, Nat.reduceAdd, Nat.reduceMul, Nat.reduceSub, ↓reduceIte, eq_self, t6], by simp only [B, xB, F, Nat.reduceLT, Nat.reduceLeDiff, Nat.reduceEqDiff, Nat.reduceAdd, Nat.reduceMul, Nat.reduceSub, ↓reduceIte, eq_self], oK0, by omega, c5K, w5K, c6K, w6K,
      (ggI.keep oIK hSI).mono (fun b _ q => by rw [hpp] at q; exact q.1), (rrI.keep oIK hSI).mono (fun b _ q => by rw [hpp] at q; exact q.1), bo'⟩
  · have fin : ∀ tm', tm'.get 1 = some vm → tm'.get 5 = some (.ptr h0.nx 0) → tm'.get 6 = some (.ptr (h0.nx + 1) 0) → tm'.get 13 = some (.int .i64 (.ofNat 0)) →
        codeW P 5 84 none (codeI (bodyC Try.f5) [0, 1, 0, 1, 1, 1, 1]) [] tm' h (blkK 2 (seqK (codeK P 5 84 none (codeI (bodyC Try.f5) [1, 1, 1, 1, 1]) (retK P Try.f5 PostTrue)) (retK P Try.f5 PostTrue))) := fun tm' a b c d =>
      playsL h tm' h0.nx vm ms y5 y6 L A a b c d (by omega) c5 c6 gg.at rr.1 bo.wf bo.al (by have := bo.le; omega) (sm.only oo (fun _ _ => by simp))
    by_cases hi1 : i < l.length
    · have d1 : decide (i < l.length) = true := decide_eq_true hi1
      have d2 : decide (i < 60) = false := decide_eq_false (fun e => hi ⟨hi1, e⟩)
      repeat' (first | (with_reducible refine fin _ ?_ ?_ ?_ ?_) | ((with_reducible show codeW _ _ _ _ (codeI _ _) _ _ _ _); first | (apply st_seq; exact rfl) | (refine st_reg ?_ rfl rfl ?_; exact rfl; (conv => arg 4; whnf); (conv => arg 3; whnf)) | (refine st_dp ord5_0 ?_ rfl rfl ?_; exact rfl; (conv => arg 4; whnf); (conv => arg 3; whnf)) | (refine st_dw ?_ rfl rfl ?_ ?_; exact rfl; kernel_rfl; (conv => arg 5; whnf); (conv => arg 3; whnf)) | (refine st_cond ?_ rfl ?_; exact rfl; (conv => arg 1; arg 2; whnf)) | (refine st_block ?_ rfl ?_; exact rfl; (conv => arg 9; arg 1; whnf)) | (apply st_skip; exact rfl) | (refine st_exit ?_ rfl ?_; exact rfl; (conv in exitId _ => whnf)) | (apply st_ret; exact rfl)) | ((with_reducible refine retW_intro rfl ?_); (conv => arg 2; whnf)) | ((with_reducible first | refine iB (fun hb => ?_) (fun hb => ?_) | refine gWt (fun hb => ?_) (fun hb => ?_) | refine gWf (fun hb => ?_) (fun hb => ?_) | refine gXt (fun hb => ?_) (fun hb => ?_) | refine gXf (fun hb => ?_) (fun hb => ?_)) <;> (try simp only [hb])) | ((with_reducible show drawP _ _ _ _ _ _ _ _ _); first | (apply kP_rd; exact rfl; exact rfl) | (apply kP_rg; exact rfl; exact rfl; exact rfl) | (apply kP_cv; exact rfl; exact rfl; kernel_rfl) | (apply kP_al; exact rfl; exact rfl; exact rfl) | (apply kP_ex; exact rfl; exact rfl; kernel_rfl; exact rfl) | (apply kP_eg; exact rfl; exact rfl; kernel_rfl; exact rfl) | (apply kP_nl)) | ((with_reducible show drawI _ _ _ _ _ _ _ _ _); first | (apply kI_rd; exact rfl) | (apply kI_rg; exact rfl; exact rfl) | (apply kI_cv; exact rfl; kernel_rfl) | (apply kI_al; exact rfl; exact rfl) | (apply kI_ex; exact rfl; kernel_rfl; exact rfl) | (apply kI_eg; exact rfl; kernel_rfl; exact rfl) | (apply kI_nl)) | ((with_reducible show eOk _ _ _ _ _ _); first | (exact eok_nil) | (apply ke_rd; exact rfl) | (apply ke_rg; exact rfl; exact rfl) | (apply ke_cv; exact rfl; kernel_rfl) | (apply ke_al; exact rfl; exact rfl)) | ((with_reducible apply freshIs_new); kernel_rfl) | (simp only [B, xB, F, Nat.reduceLT, Nat.reduceLeDiff, Nat.reduceEqDiff, Nat.reduceAdd, Nat.reduceMul, Nat.reduceSub, ↓reduceIte, eq_self, t0, t1, t5, t6, t7, hlen, d1, d2]))
    · have d1 : decide (i < l.length) = false := decide_eq_false hi1
      repeat' (first | (with_reducible refine fin _ ?_ ?_ ?_ ?_) | ((with_reducible show codeW _ _ _ _ (codeI _ _) _ _ _ _); first | (apply st_seq; exact rfl) | (refine st_reg ?_ rfl rfl ?_; exact rfl; (conv => arg 4; whnf); (conv => arg 3; whnf)) | (refine st_dp ord5_0 ?_ rfl rfl ?_; exact rfl; (conv => arg 4; whnf); (conv => arg 3; whnf)) | (refine st_dw ?_ rfl rfl ?_ ?_; exact rfl; kernel_rfl; (conv => arg 5; whnf); (conv => arg 3; whnf)) | (refine st_cond ?_ rfl ?_; exact rfl; (conv => arg 1; arg 2; whnf)) | (refine st_block ?_ rfl ?_; exact rfl; (conv => arg 9; arg 1; whnf)) | (apply st_skip; exact rfl) | (refine st_exit ?_ rfl ?_; exact rfl; (conv in exitId _ => whnf)) | (apply st_ret; exact rfl)) | ((with_reducible refine retW_intro rfl ?_); (conv => arg 2; whnf)) | ((with_reducible first | refine iB (fun hb => ?_) (fun hb => ?_) | refine gWt (fun hb => ?_) (fun hb => ?_) | refine gWf (fun hb => ?_) (fun hb => ?_) | refine gXt (fun hb => ?_) (fun hb => ?_) | refine gXf (fun hb => ?_) (fun hb => ?_)) <;> (try simp only [hb])) | ((with_reducible show drawP _ _ _ _ _ _ _ _ _); first | (apply kP_rd; exact rfl; exact rfl) | (apply kP_rg; exact rfl; exact rfl; exact rfl) | (apply kP_cv; exact rfl; exact rfl; kernel_rfl) | (apply kP_al; exact rfl; exact rfl; exact rfl) | (apply kP_ex; exact rfl; exact rfl; kernel_rfl; exact rfl) | (apply kP_eg; exact rfl; exact rfl; kernel_rfl; exact rfl) | (apply kP_nl)) | ((with_reducible show drawI _ _ _ _ _ _ _ _ _); first | (apply kI_rd; exact rfl) | (apply kI_rg; exact rfl; exact rfl) | (apply kI_cv; exact rfl; kernel_rfl) | (apply kI_al; exact rfl; exact rfl) | (apply kI_ex; exact rfl; kernel_rfl; exact rfl) | (apply kI_eg; exact rfl; kernel_rfl; exact rfl) | (apply kI_nl)) | ((with_reducible show eOk _ _ _ _ _ _); first | (exact eok_nil) | (apply ke_rd; exact rfl) | (apply ke_rg; exact rfl; exact rfl) | (apply ke_cv; exact rfl; kernel_rfl) | (apply ke_al; exact rfl; exact rfl)) | ((with_reducible apply freshIs_new); kernel_rfl) | (simp only [B, xB, F, Nat.reduceLT, Nat.reduceLeDiff, Nat.reduceEqDiff, Nat.reduceAdd, Nat.reduceMul, Nat.reduceSub, ↓reduceIte, eq_self, t0, t1, t5, t6, t7, hlen, d1]))
end
end Go.Proofs.Ytlkngpckibidlaa.W

namespace Go.Proofs.Ytlkngpckibidlaa.W
open Go Go.AX
noncomputable section
set_option maxRecDepth 100000
theorem u41 : P.underlying 41 = some (.struct (fieldsOf P 41)) := by kernel_rfl
theorem u35 : P.underlying 35 = some (.struct (fieldsOf P 35)) := by kernel_rfl
theorem rev_dec {K : Type} {enc : TypeId × Value → K} {w : World} {b : Nat} {sp : Nat → Bool} {hd : Bool} (n : Nat) (cs : List Value) (x : DataW K × List MemPlace) (h : DataW.trod enc P w b sp hd n 35 cs = some x) :
    ∃ m s : Nat, m < 18446744073709551616 ∧ s < 18446744073709551616 ∧ cs = [.int .u64 (.ofNat m), .int .u64 (.ofNat s)] := by
  obtain ⟨hl, n0, y0, h0⟩ := trod_field (i := 0) (ty := 28) (off := 0) u35 (by kernel_rfl) h
  obtain ⟨_, n1, y1, h1⟩ := trod_field (i := 1) (ty := 28) (off := 1) u35 (by kernel_rfl) h
  rw [show P.cellsOf 28 = 1 by kernel_rfl] at h0 h1
  rw [show P.cellsOf 35 = 2 by kernel_rfl] at hl
  obtain ⟨m, e0, hm⟩ := trod_nat (k := .u64) rfl u28 h0
  obtain ⟨s, e1, hs⟩ := trod_nat (k := .u64) rfl u28 h1
  match cs, hl with
  | [c0, c1], _ =>
    simp at e0 e1
    exact ⟨m, s, hm, hs, by rw [e0, e1]; rfl⟩
theorem do_dec {K : Type} {enc : TypeId × Value → K} {w : World} {b : Nat} {sp : Nat → Bool} {hd : Bool} (n : Nat) (cs : List Value) (x : DataW K × List MemPlace) (h : DataW.trod enc P w b sp hd n 41 cs = some x) : ∃ a : DoN, a.ok ∧ cs = a.cs.map natV := by
  obtain ⟨hl, n0, y0, h0⟩ := trod_field (i := 0) (ty := 5) (off := 0) u41 (by kernel_rfl) h
  obtain ⟨_, n1, y1, h1⟩ := trod_field (i := 1) (ty := 35) (off := 1) u41 (by kernel_rfl) h
  obtain ⟨_, n2, y2, h2⟩ := trod_field (i := 2) (ty := 28) (off := 3) u41 (by kernel_rfl) h
  obtain ⟨_, n3, y3, h3⟩ := trod_field (i := 3) (ty := 28) (off := 4) u41 (by kernel_rfl) h
  rw [show P.cellsOf 5 = 1 by kernel_rfl] at h0
  rw [show P.cellsOf 35 = 2 by kernel_rfl] at h1
  rw [show P.cellsOf 28 = 1 by kernel_rfl] at h2 h3
  rw [show P.cellsOf 41 = 5 by kernel_rfl] at hl
  obtain ⟨wh, e0, q0⟩ := trod_nat (k := .u8) rfl u5 h0
  obtain ⟨m, s, q1, q2, e1⟩ := rev_dec _ _ _ h1
  obtain ⟨c, e2, q3⟩ := trod_nat (k := .u64) rfl u28 h2
  obtain ⟨d, e3, q4⟩ := trod_nat (k := .u64) rfl u28 h3
  match cs, hl with
  | [c0, c1, c2, c3, c4], _ =>
    simp at e0 e1 e2 e3
    exact ⟨⟨wh, m, s, c, d⟩, ⟨q0, q1, q2, q3, q4⟩, by rw [e0, e1.1, e1.2, e2, e3]; rfl⟩
end
end Go.Proofs.Ytlkngpckibidlaa.W
namespace Go.Proofs.Ytlkngpckibidlaa.gensPlays
open Go.ChangeShapes Go.WideShapes Go.ChangeAt Go.RowKit
theorem own : ownKnob Try.prog.godebug = none := by kernel_rfl
theorem laidOut : laidOutB Try.prog = true := by kernel_rfl
theorem readable : ∀ t, t ∈ [48, 49] → Try.prog.readableRec t = true ∧ t < Try.prog.types.size := by
  intro t ht
  simp only [List.mem_cons, List.mem_nil_iff, or_false] at ht
  rcases ht with rfl | rfl <;> exact ⟨by kernel_rfl, of_decide_eq_true (by kernel_rfl)⟩
set_option maxRecDepth 100000 in
theorem walk (M : World) (vl vm : AX.AV) (l : List W.DoN) (ms : List Nat) (cl cm : Value) (hv : AX.VR (AX.absPhi M.heap.size) vl cl) (hw : AX.VR (AX.absPhi M.heap.size) vm cm) (sl : AX.SliceAt (AX.absH M) vl l.length (l.flatMap W.doC)) (hl : ∀ x, x ∈ l → x.ok)
    (sm : AX.SliceAt (AX.absH M) vm ms.length (ms.map W.n64)) : Calls Try.prog 5 #[cl, cm] M fun e w' => e = .returned (.bool true) ∧ Below M.heap.size M w' := by
  have hw' := W.playsW (AX.absH M) vl vm l ms sl hl sm
  refine (AX.calls_of_codeW (fn := Try.f5) (c := AX.bodyC Try.f5) Try.func5 rfl hw' (AX.absH_rel M) (Nat.le_refl _) (cargs := #[cl, cm]) ⟨hv, hw, trivial⟩).mono ?_
  rintro e1 w' ⟨N', φ', cv', v, h', _, rfl, hq, _, hv', _, hb⟩
  have hq : v = .bool true := hq
  subst hq
  rw [AX.VR_bool] at hv'; subst hv'
  exact ⟨rfl, hb⟩
set_option maxRecDepth 100000 in
theorem lifted (os : Os) (started : os.Started) (H : Type) (enc : TypeId × Value → H) :
    ReturnsInHanded {} Try.checked os 5 .any (Rows.gensPlaysSpec.pre6 enc Try.prog Try.f5 Rows.gensPlaysRow.domain false) (Rows.gensPlaysSpec.post enc Try.prog Try.f5 false true false false) := by
  refine returnsInHanded_of_change (C := Try.checked) own started (by kernel_rfl) Try.func5
    (ChangeSpec.witness6 (enc := enc) (C := Try.checked) false ⟨#[], #[.slice none 0 0, .slice none 0 0], []⟩ 8 (by kernel_rfl) (by kernel_rfl) (by kernel_rfl) (by kernel_rfl)) ?_
  intro M base args ds gs before hval0 hW hcnd _
  have hW' := hW
  have hlt := hW.lt
  obtain ⟨p, q, hA0, hV, rfl, hfz, hnd⟩ := hW
  have hA : DataW.TrodAll enc Try.prog M 0 (fun _ => true) true Try.f5.params.toList args.toList ds p := hA0
  rw [Try.params5] at hA hval0
  have hA1 := hA
  obtain ⟨v0, vs0, d0, ds0, p0, q0, hargs, rfl, rfl, g0, r0⟩ := trodAll_cons hA
  obtain ⟨v1, vs1, d1, ds1, p1, q1, rfl, rfl, rfl, g1, r1⟩ := trodAll_cons r0
  obtain ⟨rfl, rfl, rfl⟩ := trodAll_nil r1
  obtain rfl : args = #[v0, v1] := by cases args; simp_all
  obtain ⟨rfl, rfl⟩ := trodVars_none hV
  obtain ⟨vl, l, hv, sl, hl, _⟩ := AX.rows_arg (size := 5) W.u48 (by kernel_rfl) (by omega) W.DoN.cs W.DoN.ok (fun n cs x h => W.do_dec n cs x h) (hval0 0 48 v0 rfl rfl) g0
  obtain ⟨vm, ms, hvm, sm, _, _⟩ := AX.nats_arg (k := .u64) rfl W.u49 W.u28 (by kernel_rfl) (hval0 1 49 v1 rfl rfl) g1
  simp only [List.append_nil] at hW' hlt
  refine (walk M vl vm l ms v0 v1 hv hvm sl hl sm).mono fun e1 M' ⟨he, hb⟩ => ?_
  subst he
  exact ⟨_, rfl, _, [], _, [], _, [], hW', trodAll_cons_mk (shut_bool Try.underlying4 _) trodAll_mk0, AX.trodAll_below laidOut hb readable hA1 (fun p hp => hlt p (by simpa using hp)) _ (fun p hp => decide_eq_true (hlt p (by simpa using hp))), rfl, hb.frame _, fun h => by cases h⟩
theorem over : Rows.gensPlaysRow.holds Try.pinned (OpenSpec.ofChange Rows.gensPlaysSpec) :=
  OpenClaim.holds_of_wide 5 Try.f5 rfl rfl rfl rfl rfl rfl rfl ⟨rfl, rfl, rfl, rfl, rfl⟩ rfl rfl rfl rfl rfl (by kernel_rfl) Try.func5 (by kernel_rfl)
    (of_decide_eq_true (by kernel_rfl)) (by unfold Func.isWrapper; first | (rw [if_pos (by decide +kernel)]; kernel_rfl) | (rw [if_neg (by decide +kernel)]; exact ⟨rfl, rfl⟩))
    (fun os started H enc _ => lifted os started H enc)
theorem proved : Rows.GensPlaysSaid := over
#print axioms proved
end Go.Proofs.Ytlkngpckibidlaa.gensPlays


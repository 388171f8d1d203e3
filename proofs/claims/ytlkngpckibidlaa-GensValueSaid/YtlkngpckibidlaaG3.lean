/-
  gens: GensValue, walked.
  'GensValue' returns true, whatever the input; each argument reads as it did. No condition.
-/
import Derived.Test.YtlkngpckibidlaaAxI
import Derived.Test.YtlkngpckibidlaaG2
import Derived.Test.YtlkngpckibidlaaRows
set_option linter.unusedSimpArgs false
set_option linter.unusedVariables false
namespace Go.Proofs.Ytlkngpckibidlaa.W
open Go Go.AX
noncomputable section
set_option maxRecDepth 100000
theorem since_lt {A : List Ch} {m : Nat} (h : ∀ c, c ∈ A → c.rev.1 < m) : sinceL m A = [] := by
  unfold sinceL
  rw [List.filter_eq_nil_iff.2 (fun c hc => by have := h c hc; simp; omega)]; rfl
theorem since_snoc (A : List Ch) (m : Nat) (c : Ch) : sinceL m (A ++ [c]) = sinceL m A ++ (if m ≤ c.rev.1 then [c.rev] else []) := by
  unfold sinceL
  rw [List.filter_append, List.map_append]
  by_cases q : m ≤ c.rev.1
  · simp [q]
  · simp [q]
theorem since_zero (A : List Ch) : sinceL 0 A = A.map (·.rev) := by
  unfold sinceL; rw [List.filter_eq_self.2 (fun _ _ => by simp)]
theorem value_put {L : List Gn} (hw : WF L) (hle : ∀ c, c ∈ all L → c.rev.1 ≤ 120) (s : Nat) : putE L (1000, s) = 0 ∧ WF (putP L (1000, s)) ∧ sinceL 1000 (all (putP L (1000, s))) = [(1000, s)] ∧ (sinceL 0 (all (putP L (1000, s)))).length = (sinceL 0 (all L)).length + 1 := by
  have hf : fitsB L (1000, s) = true := by rw [fits_all]; exact fit_gt (show 0 < 1000 by omega) (fun c hc => by have := hle c hc; show c.rev.1 < 1000; omega)
  have hp : putP L (1000, s) = putL L (1000, s) 1000 1 := by unfold putP; rw [if_pos hf]
  refine ⟨by unfold putE; rw [if_pos hf], by rw [hp]; exact wf_put hw _ _ _, ?_, ?_⟩
  · rw [hp, all_putL hw, since_snoc, since_lt (fun c hc => by have := hle c hc; omega), (nextA_rev _ _ _ _).1]; rfl
  · rw [hp, all_putL hw, since_zero, since_zero]; simp
theorem sz_putP {N : Nat} {L : List Gn} (h : Sz N L) (r : Rv) : Sz (N + 1) (putP L r) := by
  unfold putP; split
  · exact sz_put h _ _ _
  · exact h.le (Nat.le_succ _)
theorem one_slice (h : H) (a b : Nat) : SliceAt (h.newCells 35 [.int .u64 (.ofNat a), .int .u64 (.ofNat b)]) (.slice h.nx 0 1 (.exact 1)) 1 (rvsC [(a, b)]) := by
  refine .cell _ _ _ _ _ (by rw [nx_new]; omega) (fun i hi => ?_)
  rw [Nat.zero_add, cellAt_new, if_pos rfl]; rfl
theorem _root_.Go.AX.Grows.wr {size base : Nat} {h : H} {v : AV} {n : Nat} {cs : List AV} (hg : Grows size base h v n cs) {b : Nat} (hb : blkOf v = some b) : wrAt h b = true := by
  cases hg with
  | none => cases hb
  | cell c n cs t ty h1 h2 h3 h4 h5 => cases hb; unfold wrAt; rw [h4]
theorem valueW (h0 : H) (vl : AV) (l : List Nat) (wh a b c d : Nat) (sl : SliceAt h0 vl l.length (u8s l)) (hb : ∀ n, n ∈ l → n < 256) :
    codeW P 4 94 none (bodyC Try.f4) [] (T.fill .e 0 [vl, .agg [.int .u8 (.ofNat wh), .int .u64 (.ofNat a), .int .u64 (.ofNat b), .int .u64 (.ofNat c), .int .u64 (.ofNat d)]]) h0 (retK P Try.f4 PostTrue) := by
  refine codeW_root ?_
  repeat' (first
    | ((with_reducible show codeW _ _ _ _ (codeI _ _) _ _ _ _); first | (apply st_seq; exact rfl) | (refine st_reg ?_ rfl rfl ?_; exact rfl; (conv => arg 4; whnf); (conv => arg 3; whnf)) | (refine st_dp ord4_0 ?_ rfl rfl ?_; exact rfl; (conv => arg 4; whnf); (conv => arg 3; whnf)) | (refine st_dp ord4_1 ?_ rfl rfl ?_; exact rfl; (conv => arg 4; whnf); (conv => arg 3; whnf)) | (refine st_dw ?_ rfl rfl ?_ ?_; exact rfl; kernel_rfl; (conv => arg 5; whnf); (conv => arg 3; whnf)) | (refine st_cond ?_ rfl ?_; exact rfl; (conv => arg 1; arg 2; whnf)) | (refine st_block ?_ rfl ?_; exact rfl; (conv => arg 9; arg 1; whnf)) | (apply st_skip; exact rfl) | (refine st_exit ?_ rfl ?_; exact rfl; (conv in exitId _ => whnf)) | (apply st_ret; exact rfl))
    | ((with_reducible refine retW_intro rfl ?_); (conv => arg 2; whnf))
    | ((with_reducible refine ifB_split (fun hb => ?_) (fun hb => ?_)) <;> (try rw [Bool.not_true] at hb) <;> (try rw [Bool.not_false] at hb) <;> (try simp only [hb]))
    | ((with_reducible refine gW_split (fun hb => ?_) (fun hb => ?_)) <;> (try rw [Bool.not_true] at hb) <;> (try rw [Bool.not_false] at hb) <;> (try simp only [hb]))
    | ((with_reducible refine gX_split (fun hb => ?_) (fun hb => ?_)) <;> (try rw [Bool.not_true] at hb) <;> (try rw [Bool.not_false] at hb) <;> (try simp only [hb]))
    | ((with_reducible show drawP _ _ _ _ _ _ _ _ _); first | (apply kP_rd; exact rfl; exact rfl) | (apply kP_rg; exact rfl; exact rfl; exact rfl) | (apply kP_cv; exact rfl; exact rfl; kernel_rfl) | (apply kP_al; exact rfl; exact rfl; exact rfl) | (apply kP_ex; exact rfl; exact rfl; kernel_rfl; exact rfl) | (apply kP_eg; exact rfl; exact rfl; kernel_rfl; exact rfl) | (apply kP_nl))
    | ((with_reducible show drawI _ _ _ _ _ _ _ _ _); first | (apply kI_rd; exact rfl) | (apply kI_rg; exact rfl; exact rfl) | (apply kI_cv; exact rfl; kernel_rfl) | (apply kI_al; exact rfl; exact rfl) | (apply kI_ex; exact rfl; kernel_rfl; exact rfl) | (apply kI_eg; exact rfl; kernel_rfl; exact rfl) | (apply kI_nl))
    | ((with_reducible show eOk _ _ _ _ _ _); first | (exact eok_nil) | (apply ke_rd; exact rfl) | (apply ke_rg; exact rfl; exact rfl) | (apply ke_cv; exact rfl; kernel_rfl) | (apply ke_al; exact rfl; exact rfl))
    | ((with_reducible apply freshIs_new); kernel_rfl)
    | (simp only [B, xB, F, Nat.reduceLT, Nat.reduceLeDiff, Nat.reduceEqDiff, Nat.reduceAdd, Nat.reduceMul, Nat.reduceSub, ↓reduceIte, eq_self]))
  refine worksC _ ?_
  obtain ⟨h1, hH⟩ : ∃ h1, h1 = h0.newCells 41 [.int .u8 (.ofNat wh), .int .u64 (.ofNat a), .int .u64 (.ofNat b), .int .u64 (.ofNat c), .int .u64 (.ofNat d)] := ⟨_, rfl⟩
  have x1 : h1.nx = h0.nx + 1 := by rw [hH]; rfl
  have o1 : Only h0 h1 [] := by rw [hH]; exact (Only.refl _ _).new _ _
  have k1 : cellAt h1 h0.nx 1 = some (.int .u64 (.ofNat a)) := by rw [hH]; simp only [B, xB, F, Nat.reduceLT, Nat.reduceLeDiff, Nat.reduceEqDiff, Nat.reduceAdd, Nat.reduceMul, Nat.reduceSub, ↓reduceIte, eq_self]
  have k2 : cellAt h1 h0.nx 2 = some (.int .u64 (.ofNat b)) := by rw [hH]; simp only [B, xB, F, Nat.reduceLT, Nat.reduceLeDiff, Nat.reduceEqDiff, Nat.reduceAdd, Nat.reduceMul, Nat.reduceSub, ↓reduceIte, eq_self]
  have k3 : cellAt h1 h0.nx 3 = some (.int .u64 (.ofNat c)) := by rw [hH]; simp only [B, xB, F, Nat.reduceLT, Nat.reduceLeDiff, Nat.reduceEqDiff, Nat.reduceAdd, Nat.reduceMul, Nat.reduceSub, ↓reduceIte, eq_self]
  have k4 : cellAt h1 h0.nx 4 = some (.int .u64 (.ofNat d)) := by rw [hH]; simp only [B, xB, F, Nat.reduceLT, Nat.reduceLeDiff, Nat.reduceEqDiff, Nat.reduceAdd, Nat.reduceMul, Nat.reduceSub, ↓reduceIte, eq_self]
  rw [← hH]
  repeat' (first
    | ((with_reducible show codeW _ _ _ _ (codeI _ _) _ _ _ _); first | (apply st_seq; exact rfl) | (refine st_reg ?_ rfl rfl ?_; exact rfl; (conv => arg 4; whnf); (conv => arg 3; whnf)) | (refine st_dp ord4_0 ?_ rfl rfl ?_; exact rfl; (conv => arg 4; whnf); (conv => arg 3; whnf)) | (refine st_dp ord4_1 ?_ rfl rfl ?_; exact rfl; (conv => arg 4; whnf); (conv => arg 3; whnf)) | (refine st_dw ?_ rfl rfl ?_ ?_; exact rfl; kernel_rfl; (conv => arg 5; whnf); (conv => arg 3; whnf)) | (refine st_cond ?_ rfl ?_; exact rfl; (conv => arg 1; arg 2; whnf)) | (refine st_block ?_ rfl ?_; exact rfl; (conv => arg 9; arg 1; whnf)) | (apply st_skip; exact rfl) | (refine st_exit ?_ rfl ?_; exact rfl; (conv in exitId _ => whnf)) | (apply st_ret; exact rfl))
    | ((with_reducible refine retW_intro rfl ?_); (conv => arg 2; whnf))
    | ((with_reducible refine ifB_split (fun hb => ?_) (fun hb => ?_)) <;> (try rw [Bool.not_true] at hb) <;> (try rw [Bool.not_false] at hb) <;> (try simp only [hb]))
    | ((with_reducible refine gW_split (fun hb => ?_) (fun hb => ?_)) <;> (try rw [Bool.not_true] at hb) <;> (try rw [Bool.not_false] at hb) <;> (try simp only [hb]))
    | ((with_reducible refine gX_split (fun hb => ?_) (fun hb => ?_)) <;> (try rw [Bool.not_true] at hb) <;> (try rw [Bool.not_false] at hb) <;> (try simp only [hb]))
    | ((with_reducible show drawP _ _ _ _ _ _ _ _ _); first | (apply kP_rd; exact rfl; exact rfl) | (apply kP_rg; exact rfl; exact rfl; exact rfl) | (apply kP_cv; exact rfl; exact rfl; kernel_rfl) | (apply kP_al; exact rfl; exact rfl; exact rfl) | (apply kP_ex; exact rfl; exact rfl; kernel_rfl; exact rfl) | (apply kP_eg; exact rfl; exact rfl; kernel_rfl; exact rfl) | (apply kP_nl))
    | ((with_reducible show drawI _ _ _ _ _ _ _ _ _); first | (apply kI_rd; exact rfl) | (apply kI_rg; exact rfl; exact rfl) | (apply kI_cv; exact rfl; kernel_rfl) | (apply kI_al; exact rfl; exact rfl) | (apply kI_ex; exact rfl; kernel_rfl; exact rfl) | (apply kI_eg; exact rfl; kernel_rfl; exact rfl) | (apply kI_nl))
    | ((with_reducible show eOk _ _ _ _ _ _); first | (exact eok_nil) | (apply ke_rd; exact rfl) | (apply ke_rg; exact rfl; exact rfl) | (apply ke_cv; exact rfl; kernel_rfl) | (apply ke_al; exact rfl; exact rfl))
    | ((with_reducible apply freshIs_new); kernel_rfl)
    | (simp only [B, xB, F, Nat.reduceLT, Nat.reduceLeDiff, Nat.reduceEqDiff, Nat.reduceAdd, Nat.reduceMul, Nat.reduceSub, ↓reduceIte, eq_self]))
  refine ((madeC h1 vl l (sl.only o1 (fun _ _ => by simp)) hb).call P).mono P ?_
  rintro v h2 ⟨o2, hg2⟩
  have hmi := mi_made (l.take 40)
  obtain ⟨L, hL⟩ : ∃ L, L = (madeL (l.take 40)).1 := ⟨_, rfl⟩
  obtain ⟨M, hM⟩ : ∃ M, M = (madeL (l.take 40)).2 := ⟨_, rfl⟩
  rw [← hL] at hg2
  have hn40 : (l.take 40).length ≤ 40 := by rw [List.length_take]; omega
  have hz : Sz 40 L := by rw [hL]; exact hmi.sz.le hn40
  have hw : WF L := by rw [hL]; exact hmi.wf
  have hle : ∀ c, c ∈ all L → c.rev.1 ≤ 120 := fun c hc => by rw [hL] at hc; have := hmi.le c hc; have := hmi.mx; omega
  have V0 := value_put hw hle 0
  have V1 := value_put hw hle 1
  obtain ⟨s, rfl, hso, hsc⟩ := hg2.val
  have x2 := o2.1
  first | replace k1 := kcell k1 o2 (by omega) (by simp) | replace k1 := kwr k1 o2 (by omega) (by simp)
  first | replace k2 := kcell k2 o2 (by omega) (by simp) | replace k2 := kwr k2 o2 (by omega) (by simp)
  first | replace k3 := kcell k3 o2 (by omega) (by simp) | replace k3 := kwr k3 o2 (by omega) (by simp)
  first | replace k4 := kcell k4 o2 (by omega) (by simp) | replace k4 := kwr k4 o2 (by omega) (by simp)
  repeat' (first
    | ((with_reducible show codeW _ _ _ _ (codeI _ _) _ _ _ _); first | (apply st_seq; exact rfl) | (refine st_reg ?_ rfl rfl ?_; exact rfl; (conv => arg 4; whnf); (conv => arg 3; whnf)) | (refine st_dp ord4_0 ?_ rfl rfl ?_; exact rfl; (conv => arg 4; whnf); (conv => arg 3; whnf)) | (refine st_dp ord4_1 ?_ rfl rfl ?_; exact rfl; (conv => arg 4; whnf); (conv => arg 3; whnf)) | (refine st_dw ?_ rfl rfl ?_ ?_; exact rfl; kernel_rfl; (conv => arg 5; whnf); (conv => arg 3; whnf)) | (refine st_cond ?_ rfl ?_; exact rfl; (conv => arg 1; arg 2; whnf)) | (refine st_block ?_ rfl ?_; exact rfl; (conv => arg 9; arg 1; whnf)) | (apply st_skip; exact rfl) | (refine st_exit ?_ rfl ?_; exact rfl; (conv in exitId _ => whnf)) | (apply st_ret; exact rfl))
    | ((with_reducible refine retW_intro rfl ?_); (conv => arg 2; whnf))
    | ((with_reducible refine ifB_split (fun hb => ?_) (fun hb => ?_)) <;> (try rw [Bool.not_true] at hb) <;> (try rw [Bool.not_false] at hb) <;> (try simp only [hb]))
    | ((with_reducible refine gW_split (fun hb => ?_) (fun hb => ?_)) <;> (try rw [Bool.not_true] at hb) <;> (try rw [Bool.not_false] at hb) <;> (try simp only [hb]))
    | ((with_reducible refine gX_split (fun hb => ?_) (fun hb => ?_)) <;> (try rw [Bool.not_true] at hb) <;> (try rw [Bool.not_false] at hb) <;> (try simp only [hb]))
    | ((with_reducible show drawP _ _ _ _ _ _ _ _ _); first | (apply kP_rd; exact rfl; exact rfl) | (apply kP_rg; exact rfl; exact rfl; exact rfl) | (apply kP_cv; exact rfl; exact rfl; kernel_rfl) | (apply kP_al; exact rfl; exact rfl; exact rfl) | (apply kP_ex; exact rfl; exact rfl; kernel_rfl; exact rfl) | (apply kP_eg; exact rfl; exact rfl; kernel_rfl; exact rfl) | (apply kP_nl))
    | ((with_reducible show drawI _ _ _ _ _ _ _ _ _); first | (apply kI_rd; exact rfl) | (apply kI_rg; exact rfl; exact rfl) | (apply kI_cv; exact rfl; kernel_rfl) | (apply kI_al; exact rfl; exact rfl) | (apply kI_ex; exact rfl; kernel_rfl; exact rfl) | (apply kI_eg; exact rfl; kernel_rfl; exact rfl) | (apply kI_nl))
    | ((with_reducible show eOk _ _ _ _ _ _); first | (exact eok_nil) | (apply ke_rd; exact rfl) | (apply ke_rg; exact rfl; exact rfl) | (apply ke_cv; exact rfl; kernel_rfl) | (apply ke_al; exact rfl; exact rfl))
    | ((with_reducible apply freshIs_new); kernel_rfl)
    | (simp only [B, xB, F, Nat.reduceLT, Nat.reduceLeDiff, Nat.reduceEqDiff, Nat.reduceAdd, Nat.reduceMul, Nat.reduceSub, ↓reduceIte, eq_self, hso, hsc]))
  obtain ⟨h3, h3e⟩ : ∃ h3, h3 = (h2.newCells 26 [.nilslice]).sts h2.nx 0 [s] := ⟨_, rfl⟩
  rw [← h3e]
  have o3 : Only h2 h3 [] := by rw [h3e]; exact ((Only.refl _ _).new _ _).sts (.inr (Nat.le_refl _))
  have x3 : h3.nx = h2.nx + 1 := by rw [h3e, nx_sts, nx_new]
  have c5 : cellAt h3 h2.nx 0 = some s := by rw [h3e]; simp only [B, xB, F, Nat.reduceLT, Nat.reduceLeDiff, Nat.reduceEqDiff, Nat.reduceAdd, Nat.reduceMul, Nat.reduceSub, ↓reduceIte, eq_self]
  first | replace k1 := kcell k1 o3 (by omega) (by simp) | replace k1 := kwr k1 o3 (by omega) (by simp)
  first | replace k2 := kcell k2 o3 (by omega) (by simp) | replace k2 := kwr k2 o3 (by omega) (by simp)
  first | replace k3 := kcell k3 o3 (by omega) (by simp) | replace k3 := kwr k3 o3 (by omega) (by simp)
  first | replace k4 := kcell k4 o3 (by omega) (by simp) | replace k4 := kwr k4 o3 (by omega) (by simp)
  have hg3 := hg2.keep o3
  refine ((sinceC h3 _ L 0 hg3 (hz.le (by omega))).call P).mono P ?_
  rintro v6 h4 ⟨o4, gr6⟩
  have x4 := o4.1
  first | replace k1 := kcell k1 o4 (by omega) (by simp) | replace k1 := kwr k1 o4 (by omega) (by simp)
  first | replace k2 := kcell k2 o4 (by omega) (by simp) | replace k2 := kwr k2 o4 (by omega) (by simp)
  first | replace k3 := kcell k3 o4 (by omega) (by simp) | replace k3 := kwr k3 o4 (by omega) (by simp)
  first | replace k4 := kcell k4 o4 (by omega) (by simp) | replace k4 := kwr k4 o4 (by omega) (by simp)
  first | replace c5 := kcell c5 o4 (by omega) (by simp) | replace c5 := kwr c5 o4 (by omega) (by simp)
  have hs6 := gr6.slice
  have hg4 := hg3.keep o4
  have n24 : (h2.nx = h4.nx) = False := by simp; omega
  repeat' (first
    | ((with_reducible show codeW _ _ _ _ (codeI _ _) _ _ _ _); first | (apply st_seq; exact rfl) | (refine st_reg ?_ rfl rfl ?_; exact rfl; (conv => arg 4; whnf); (conv => arg 3; whnf)) | (refine st_dp ord4_0 ?_ rfl rfl ?_; exact rfl; (conv => arg 4; whnf); (conv => arg 3; whnf)) | (refine st_dp ord4_1 ?_ rfl rfl ?_; exact rfl; (conv => arg 4; whnf); (conv => arg 3; whnf)) | (refine st_dw ?_ rfl rfl ?_ ?_; exact rfl; kernel_rfl; (conv => arg 5; whnf); (conv => arg 3; whnf)) | (refine st_cond ?_ rfl ?_; exact rfl; (conv => arg 1; arg 2; whnf)) | (refine st_block ?_ rfl ?_; exact rfl; (conv => arg 9; arg 1; whnf)) | (apply st_skip; exact rfl) | (refine st_exit ?_ rfl ?_; exact rfl; (conv in exitId _ => whnf)) | (apply st_ret; exact rfl))
    | ((with_reducible refine retW_intro rfl ?_); (conv => arg 2; whnf))
    | ((with_reducible refine ifB_split (fun hb => ?_) (fun hb => ?_)) <;> (try rw [Bool.not_true] at hb) <;> (try rw [Bool.not_false] at hb) <;> (try simp only [hb]))
    | ((with_reducible refine gW_split (fun hb => ?_) (fun hb => ?_)) <;> (try rw [Bool.not_true] at hb) <;> (try rw [Bool.not_false] at hb) <;> (try simp only [hb]))
    | ((with_reducible refine gX_split (fun hb => ?_) (fun hb => ?_)) <;> (try rw [Bool.not_true] at hb) <;> (try rw [Bool.not_false] at hb) <;> (try simp only [hb]))
    | ((with_reducible show drawP _ _ _ _ _ _ _ _ _); first | (apply kP_rd; exact rfl; exact rfl) | (apply kP_rg; exact rfl; exact rfl; exact rfl) | (apply kP_cv; exact rfl; exact rfl; kernel_rfl) | (apply kP_al; exact rfl; exact rfl; exact rfl) | (apply kP_ex; exact rfl; exact rfl; kernel_rfl; exact rfl) | (apply kP_eg; exact rfl; exact rfl; kernel_rfl; exact rfl) | (apply kP_nl))
    | ((with_reducible show drawI _ _ _ _ _ _ _ _ _); first | (apply kI_rd; exact rfl) | (apply kI_rg; exact rfl; exact rfl) | (apply kI_cv; exact rfl; kernel_rfl) | (apply kI_al; exact rfl; exact rfl) | (apply kI_ex; exact rfl; kernel_rfl; exact rfl) | (apply kI_eg; exact rfl; kernel_rfl; exact rfl) | (apply kI_nl))
    | ((with_reducible show eOk _ _ _ _ _ _); first | (exact eok_nil) | (apply ke_rd; exact rfl) | (apply ke_rg; exact rfl; exact rfl) | (apply ke_cv; exact rfl; kernel_rfl) | (apply ke_al; exact rfl; exact rfl))
    | ((with_reducible apply freshIs_new); kernel_rfl)
    | (simp only [B, xB, F, Nat.reduceLT, Nat.reduceLeDiff, Nat.reduceEqDiff, Nat.reduceAdd, Nat.reduceMul, Nat.reduceSub, ↓reduceIte, eq_self, c5, n24]))
  have ob4 : Only h4 (h4.newCells 26 [.nilslice]) [] := (Only.refl _ _).new _ _
  have xb4 : (h4.newCells 26 [.nilslice]).nx = h4.nx + 1 := rfl
  refine ((revC (h4.newCells 26 [.nilslice]) 1000 0).call P).mono P ?_
  rintro v h5 ⟨rfl, o5⟩
  have x5 := o5.1
  have o45 := ob4.trans o5 (fun _ h => h) (fun _ h => by cases h)
  have c55 := kcell c5 o45 (by omega) (by simp)
  have G5 : h5.t.get h4.nx = (h4.newCells 26 [.nilslice]).t.get h4.nx := o5.2 _ (by omega) (by simp)
  repeat' (first
    | ((with_reducible show codeW _ _ _ _ (codeI _ _) _ _ _ _); first | (apply st_seq; exact rfl) | (refine st_reg ?_ rfl rfl ?_; exact rfl; (conv => arg 4; whnf); (conv => arg 3; whnf)) | (refine st_dp ord4_0 ?_ rfl rfl ?_; exact rfl; (conv => arg 4; whnf); (conv => arg 3; whnf)) | (refine st_dp ord4_1 ?_ rfl rfl ?_; exact rfl; (conv => arg 4; whnf); (conv => arg 3; whnf)) | (refine st_dw ?_ rfl rfl ?_ ?_; exact rfl; kernel_rfl; (conv => arg 5; whnf); (conv => arg 3; whnf)) | (refine st_cond ?_ rfl ?_; exact rfl; (conv => arg 1; arg 2; whnf)) | (refine st_block ?_ rfl ?_; exact rfl; (conv => arg 9; arg 1; whnf)) | (apply st_skip; exact rfl) | (refine st_exit ?_ rfl ?_; exact rfl; (conv in exitId _ => whnf)) | (apply st_ret; exact rfl))
    | ((with_reducible refine retW_intro rfl ?_); (conv => arg 2; whnf))
    | ((with_reducible refine ifB_split (fun hb => ?_) (fun hb => ?_)) <;> (try rw [Bool.not_true] at hb) <;> (try rw [Bool.not_false] at hb) <;> (try simp only [hb]))
    | ((with_reducible refine gW_split (fun hb => ?_) (fun hb => ?_)) <;> (try rw [Bool.not_true] at hb) <;> (try rw [Bool.not_false] at hb) <;> (try simp only [hb]))
    | ((with_reducible refine gX_split (fun hb => ?_) (fun hb => ?_)) <;> (try rw [Bool.not_true] at hb) <;> (try rw [Bool.not_false] at hb) <;> (try simp only [hb]))
    | ((with_reducible show drawP _ _ _ _ _ _ _ _ _); first | (apply kP_rd; exact rfl; exact rfl) | (apply kP_rg; exact rfl; exact rfl; exact rfl) | (apply kP_cv; exact rfl; exact rfl; kernel_rfl) | (apply kP_al; exact rfl; exact rfl; exact rfl) | (apply kP_ex; exact rfl; exact rfl; kernel_rfl; exact rfl) | (apply kP_eg; exact rfl; exact rfl; kernel_rfl; exact rfl) | (apply kP_nl))
    | ((with_reducible show drawI _ _ _ _ _ _ _ _ _); first | (apply kI_rd; exact rfl) | (apply kI_rg; exact rfl; exact rfl) | (apply kI_cv; exact rfl; kernel_rfl) | (apply kI_al; exact rfl; exact rfl) | (apply kI_ex; exact rfl; kernel_rfl; exact rfl) | (apply kI_eg; exact rfl; kernel_rfl; exact rfl) | (apply kI_nl))
    | ((with_reducible show eOk _ _ _ _ _ _); first | (exact eok_nil) | (apply ke_rd; exact rfl) | (apply ke_rg; exact rfl; exact rfl) | (apply ke_cv; exact rfl; kernel_rfl) | (apply ke_al; exact rfl; exact rfl))
    | ((with_reducible apply freshIs_new); kernel_rfl)
    | (simp only [B, xB, F, Nat.reduceLT, Nat.reduceLeDiff, Nat.reduceEqDiff, Nat.reduceAdd, Nat.reduceMul, Nat.reduceSub, ↓reduceIte, eq_self, c55, G5]))
  refine ((PutC (fun b => b ≠ h4.nx) h5 _ _ (1000, 0) (fun b hb => by omega) ((hg4.p.mono fun b _ q => by omega).keep0 o45) (hz.le (by omega))).call P).mono P ?_
  rintro v h6 ⟨o6, g7, rfl, hg7⟩
  have x6 := o6.1
  have G6 : h6.t.get h4.nx = (h4.newCells 26 [.nilslice]).t.get h4.nx := by rw [o6.2 _ (by omega) (by simp)]; exact G5
  have wb6 : wrAt h6 h4.nx = true := by rw [wrAt_of_get G6, wrAt_new, if_pos rfl]
  have cb6 : cellAt h6 h4.nx 0 = some .nilslice := by rw [cellAt_of_get G6, cellAt_new, if_pos rfl]; rfl
  rw [V0.1]
  unfold errV
  obtain ⟨sa, rfl, hso7, hsc7⟩ := hg7.val
  have o46 := o45.trans o6 (fun _ h => h) (fun _ h => by cases h)
  have c56 := kcell c5 o46 (by omega) (by simp)
  obtain ⟨h7, h7e⟩ : ∃ hh, hh = h6.sts h4.nx 0 [sa] := ⟨_, rfl⟩
  have o67 : Only h6 h7 [h4.nx] := by rw [h7e]; exact (Only.refl _ _).sts (.inl (by simp))
  have x7 : h7.nx = h6.nx := by rw [h7e, nx_sts]
  have o47 : Only h4 h7 [] := by rw [h7e]; exact o46.sts (.inr (Nat.le_refl _))
  have n27 : (h2.nx = h6.nx) = False := by simp; omega
  repeat' (first
    | ((with_reducible show codeW _ _ _ _ (codeI _ _) _ _ _ _); first | (apply st_seq; exact rfl) | (refine st_reg ?_ rfl rfl ?_; exact rfl; (conv => arg 4; whnf); (conv => arg 3; whnf)) | (refine st_dp ord4_0 ?_ rfl rfl ?_; exact rfl; (conv => arg 4; whnf); (conv => arg 3; whnf)) | (refine st_dp ord4_1 ?_ rfl rfl ?_; exact rfl; (conv => arg 4; whnf); (conv => arg 3; whnf)) | (refine st_dw ?_ rfl rfl ?_ ?_; exact rfl; kernel_rfl; (conv => arg 5; whnf); (conv => arg 3; whnf)) | (refine st_cond ?_ rfl ?_; exact rfl; (conv => arg 1; arg 2; whnf)) | (refine st_block ?_ rfl ?_; exact rfl; (conv => arg 9; arg 1; whnf)) | (apply st_skip; exact rfl) | (refine st_exit ?_ rfl ?_; exact rfl; (conv in exitId _ => whnf)) | (apply st_ret; exact rfl))
    | ((with_reducible refine retW_intro rfl ?_); (conv => arg 2; whnf))
    | ((with_reducible refine ifB_split (fun hb => ?_) (fun hb => ?_)) <;> (try rw [Bool.not_true] at hb) <;> (try rw [Bool.not_false] at hb) <;> (try simp only [hb]))
    | ((with_reducible refine gW_split (fun hb => ?_) (fun hb => ?_)) <;> (try rw [Bool.not_true] at hb) <;> (try rw [Bool.not_false] at hb) <;> (try simp only [hb]))
    | ((with_reducible refine gX_split (fun hb => ?_) (fun hb => ?_)) <;> (try rw [Bool.not_true] at hb) <;> (try rw [Bool.not_false] at hb) <;> (try simp only [hb]))
    | ((with_reducible show drawP _ _ _ _ _ _ _ _ _); first | (apply kP_rd; exact rfl; exact rfl) | (apply kP_rg; exact rfl; exact rfl; exact rfl) | (apply kP_cv; exact rfl; exact rfl; kernel_rfl) | (apply kP_al; exact rfl; exact rfl; exact rfl) | (apply kP_ex; exact rfl; exact rfl; kernel_rfl; exact rfl) | (apply kP_eg; exact rfl; exact rfl; kernel_rfl; exact rfl) | (apply kP_nl))
    | ((with_reducible show drawI _ _ _ _ _ _ _ _ _); first | (apply kI_rd; exact rfl) | (apply kI_rg; exact rfl; exact rfl) | (apply kI_cv; exact rfl; kernel_rfl) | (apply kI_al; exact rfl; exact rfl) | (apply kI_ex; exact rfl; kernel_rfl; exact rfl) | (apply kI_eg; exact rfl; kernel_rfl; exact rfl) | (apply kI_nl))
    | ((with_reducible show eOk _ _ _ _ _ _); first | (exact eok_nil) | (apply ke_rd; exact rfl) | (apply ke_rg; exact rfl; exact rfl) | (apply ke_cv; exact rfl; kernel_rfl) | (apply ke_al; exact rfl; exact rfl))
    | ((with_reducible apply freshIs_new); kernel_rfl)
    | (simp only [B, xB, F, Nat.reduceLT, Nat.reduceLeDiff, Nat.reduceEqDiff, Nat.reduceAdd, Nat.reduceMul, Nat.reduceSub, ↓reduceIte, eq_self, c56, G6, hso7, hsc7, put_sts, wb6, cb6]))
  rw [← h7e]
  first | replace k1 := kcell k1 o47 (by omega) (by simp) | replace k1 := kwr k1 o47 (by omega) (by simp)
  first | replace k2 := kcell k2 o47 (by omega) (by simp) | replace k2 := kwr k2 o47 (by omega) (by simp)
  first | replace k3 := kcell k3 o47 (by omega) (by simp) | replace k3 := kwr k3 o47 (by omega) (by simp)
  first | replace k4 := kcell k4 o47 (by omega) (by simp) | replace k4 := kwr k4 o47 (by omega) (by simp)
  first | replace c5 := kcell c5 o47 (by omega) (by simp) | replace c5 := kwr c5 o47 (by omega) (by simp)
  have c7 : cellAt h7 h4.nx 0 = some sa := by rw [h7e, cellAt_sts wb6, if_pos ⟨rfl, Nat.le_refl _, by simp⟩]; rfl
  have ha7 := (hg7.keep o67 (fun c hc => by rw [List.mem_singleton] at hc; omega)).at
  have hg4 := hg4.keep o47
  have hs6 := hs6.only o47 (fun _ _ => by simp)
  have n25 : (h2.nx = h7.nx) = False := by simp; omega
  repeat' (first
    | ((with_reducible show codeW _ _ _ _ (codeI _ _) _ _ _ _); first | (apply st_seq; exact rfl) | (refine st_reg ?_ rfl rfl ?_; exact rfl; (conv => arg 4; whnf); (conv => arg 3; whnf)) | (refine st_dp ord4_0 ?_ rfl rfl ?_; exact rfl; (conv => arg 4; whnf); (conv => arg 3; whnf)) | (refine st_dp ord4_1 ?_ rfl rfl ?_; exact rfl; (conv => arg 4; whnf); (conv => arg 3; whnf)) | (refine st_dw ?_ rfl rfl ?_ ?_; exact rfl; kernel_rfl; (conv => arg 5; whnf); (conv => arg 3; whnf)) | (refine st_cond ?_ rfl ?_; exact rfl; (conv => arg 1; arg 2; whnf)) | (refine st_block ?_ rfl ?_; exact rfl; (conv => arg 9; arg 1; whnf)) | (apply st_skip; exact rfl) | (refine st_exit ?_ rfl ?_; exact rfl; (conv in exitId _ => whnf)) | (apply st_ret; exact rfl))
    | ((with_reducible refine retW_intro rfl ?_); (conv => arg 2; whnf))
    | ((with_reducible refine ifB_split (fun hb => ?_) (fun hb => ?_)) <;> (try rw [Bool.not_true] at hb) <;> (try rw [Bool.not_false] at hb) <;> (try simp only [hb]))
    | ((with_reducible refine gW_split (fun hb => ?_) (fun hb => ?_)) <;> (try rw [Bool.not_true] at hb) <;> (try rw [Bool.not_false] at hb) <;> (try simp only [hb]))
    | ((with_reducible refine gX_split (fun hb => ?_) (fun hb => ?_)) <;> (try rw [Bool.not_true] at hb) <;> (try rw [Bool.not_false] at hb) <;> (try simp only [hb]))
    | ((with_reducible show drawP _ _ _ _ _ _ _ _ _); first | (apply kP_rd; exact rfl; exact rfl) | (apply kP_rg; exact rfl; exact rfl; exact rfl) | (apply kP_cv; exact rfl; exact rfl; kernel_rfl) | (apply kP_al; exact rfl; exact rfl; exact rfl) | (apply kP_ex; exact rfl; exact rfl; kernel_rfl; exact rfl) | (apply kP_eg; exact rfl; exact rfl; kernel_rfl; exact rfl) | (apply kP_nl))
    | ((with_reducible show drawI _ _ _ _ _ _ _ _ _); first | (apply kI_rd; exact rfl) | (apply kI_rg; exact rfl; exact rfl) | (apply kI_cv; exact rfl; kernel_rfl) | (apply kI_al; exact rfl; exact rfl) | (apply kI_ex; exact rfl; kernel_rfl; exact rfl) | (apply kI_eg; exact rfl; kernel_rfl; exact rfl) | (apply kI_nl))
    | ((with_reducible show eOk _ _ _ _ _ _); first | (exact eok_nil) | (apply ke_rd; exact rfl) | (apply ke_rg; exact rfl; exact rfl) | (apply ke_cv; exact rfl; kernel_rfl) | (apply ke_al; exact rfl; exact rfl))
    | ((with_reducible apply freshIs_new); kernel_rfl)
    | (simp only [B, xB, F, Nat.reduceLT, Nat.reduceLeDiff, Nat.reduceEqDiff, Nat.reduceAdd, Nat.reduceMul, Nat.reduceSub, ↓reduceIte, eq_self, c5, n24, n25]))
  have ob4 : Only h7 (h7.newCells 26 [.nilslice]) [] := (Only.refl _ _).new _ _
  have xb4 : (h7.newCells 26 [.nilslice]).nx = h7.nx + 1 := rfl
  refine ((revC (h7.newCells 26 [.nilslice]) 1000 1).call P).mono P ?_
  rintro v h5 ⟨rfl, o5⟩
  have x5 := o5.1
  have o45 := ob4.trans o5 (fun _ h => h) (fun _ h => by cases h)
  have c55 := kcell c5 o45 (by omega) (by simp)
  have K5 : h5.t.get h7.nx = (h7.newCells 26 [.nilslice]).t.get h7.nx := o5.2 _ (by omega) (by simp)
  repeat' (first
    | ((with_reducible show codeW _ _ _ _ (codeI _ _) _ _ _ _); first | (apply st_seq; exact rfl) | (refine st_reg ?_ rfl rfl ?_; exact rfl; (conv => arg 4; whnf); (conv => arg 3; whnf)) | (refine st_dp ord4_0 ?_ rfl rfl ?_; exact rfl; (conv => arg 4; whnf); (conv => arg 3; whnf)) | (refine st_dp ord4_1 ?_ rfl rfl ?_; exact rfl; (conv => arg 4; whnf); (conv => arg 3; whnf)) | (refine st_dw ?_ rfl rfl ?_ ?_; exact rfl; kernel_rfl; (conv => arg 5; whnf); (conv => arg 3; whnf)) | (refine st_cond ?_ rfl ?_; exact rfl; (conv => arg 1; arg 2; whnf)) | (refine st_block ?_ rfl ?_; exact rfl; (conv => arg 9; arg 1; whnf)) | (apply st_skip; exact rfl) | (refine st_exit ?_ rfl ?_; exact rfl; (conv in exitId _ => whnf)) | (apply st_ret; exact rfl))
    | ((with_reducible refine retW_intro rfl ?_); (conv => arg 2; whnf))
    | ((with_reducible refine ifB_split (fun hb => ?_) (fun hb => ?_)) <;> (try rw [Bool.not_true] at hb) <;> (try rw [Bool.not_false] at hb) <;> (try simp only [hb]))
    | ((with_reducible refine gW_split (fun hb => ?_) (fun hb => ?_)) <;> (try rw [Bool.not_true] at hb) <;> (try rw [Bool.not_false] at hb) <;> (try simp only [hb]))
    | ((with_reducible refine gX_split (fun hb => ?_) (fun hb => ?_)) <;> (try rw [Bool.not_true] at hb) <;> (try rw [Bool.not_false] at hb) <;> (try simp only [hb]))
    | ((with_reducible show drawP _ _ _ _ _ _ _ _ _); first | (apply kP_rd; exact rfl; exact rfl) | (apply kP_rg; exact rfl; exact rfl; exact rfl) | (apply kP_cv; exact rfl; exact rfl; kernel_rfl) | (apply kP_al; exact rfl; exact rfl; exact rfl) | (apply kP_ex; exact rfl; exact rfl; kernel_rfl; exact rfl) | (apply kP_eg; exact rfl; exact rfl; kernel_rfl; exact rfl) | (apply kP_nl))
    | ((with_reducible show drawI _ _ _ _ _ _ _ _ _); first | (apply kI_rd; exact rfl) | (apply kI_rg; exact rfl; exact rfl) | (apply kI_cv; exact rfl; kernel_rfl) | (apply kI_al; exact rfl; exact rfl) | (apply kI_ex; exact rfl; kernel_rfl; exact rfl) | (apply kI_eg; exact rfl; kernel_rfl; exact rfl) | (apply kI_nl))
    | ((with_reducible show eOk _ _ _ _ _ _); first | (exact eok_nil) | (apply ke_rd; exact rfl) | (apply ke_rg; exact rfl; exact rfl) | (apply ke_cv; exact rfl; kernel_rfl) | (apply ke_al; exact rfl; exact rfl))
    | ((with_reducible apply freshIs_new); kernel_rfl)
    | (simp only [B, xB, F, Nat.reduceLT, Nat.reduceLeDiff, Nat.reduceEqDiff, Nat.reduceAdd, Nat.reduceMul, Nat.reduceSub, ↓reduceIte, eq_self, c55, K5]))
  refine ((PutC (fun b => b ≠ h7.nx) h5 _ _ (1000, 1) (fun b hb => by omega) ((hg4.p.mono fun b _ q => by omega).keep0 o45) (hz.le (by omega))).call P).mono P ?_
  rintro v h6 ⟨o6, g7, rfl, hg7⟩
  have x6 := o6.1
  have K6 : h6.t.get h7.nx = (h7.newCells 26 [.nilslice]).t.get h7.nx := by rw [o6.2 _ (by omega) (by simp)]; exact K5
  have wb6 : wrAt h6 h7.nx = true := by rw [wrAt_of_get K6, wrAt_new, if_pos rfl]
  have cb6 : cellAt h6 h7.nx 0 = some .nilslice := by rw [cellAt_of_get K6, cellAt_new, if_pos rfl]; rfl
  rw [V1.1]
  unfold errV
  obtain ⟨sb, rfl, hso7, hsc7⟩ := hg7.val
  have o46 := o45.trans o6 (fun _ h => h) (fun _ h => by cases h)
  have c56 := kcell c5 o46 (by omega) (by simp)
  obtain ⟨h10, h7e⟩ : ∃ hh, hh = h6.sts h7.nx 0 [sb] := ⟨_, rfl⟩
  have o67 : Only h6 h10 [h7.nx] := by rw [h7e]; exact (Only.refl _ _).sts (.inl (by simp))
  have x7 : h10.nx = h6.nx := by rw [h7e, nx_sts]
  have o47 : Only h7 h10 [] := by rw [h7e]; exact o46.sts (.inr (Nat.le_refl _))
  have n27 : (h2.nx = h6.nx) = False := by simp; omega
  repeat' (first
    | ((with_reducible show codeW _ _ _ _ (codeI _ _) _ _ _ _); first | (apply st_seq; exact rfl) | (refine st_reg ?_ rfl rfl ?_; exact rfl; (conv => arg 4; whnf); (conv => arg 3; whnf)) | (refine st_dp ord4_0 ?_ rfl rfl ?_; exact rfl; (conv => arg 4; whnf); (conv => arg 3; whnf)) | (refine st_dp ord4_1 ?_ rfl rfl ?_; exact rfl; (conv => arg 4; whnf); (conv => arg 3; whnf)) | (refine st_dw ?_ rfl rfl ?_ ?_; exact rfl; kernel_rfl; (conv => arg 5; whnf); (conv => arg 3; whnf)) | (refine st_cond ?_ rfl ?_; exact rfl; (conv => arg 1; arg 2; whnf)) | (refine st_block ?_ rfl ?_; exact rfl; (conv => arg 9; arg 1; whnf)) | (apply st_skip; exact rfl) | (refine st_exit ?_ rfl ?_; exact rfl; (conv in exitId _ => whnf)) | (apply st_ret; exact rfl))
    | ((with_reducible refine retW_intro rfl ?_); (conv => arg 2; whnf))
    | ((with_reducible refine ifB_split (fun hb => ?_) (fun hb => ?_)) <;> (try rw [Bool.not_true] at hb) <;> (try rw [Bool.not_false] at hb) <;> (try simp only [hb]))
    | ((with_reducible refine gW_split (fun hb => ?_) (fun hb => ?_)) <;> (try rw [Bool.not_true] at hb) <;> (try rw [Bool.not_false] at hb) <;> (try simp only [hb]))
    | ((with_reducible refine gX_split (fun hb => ?_) (fun hb => ?_)) <;> (try rw [Bool.not_true] at hb) <;> (try rw [Bool.not_false] at hb) <;> (try simp only [hb]))
    | ((with_reducible show drawP _ _ _ _ _ _ _ _ _); first | (apply kP_rd; exact rfl; exact rfl) | (apply kP_rg; exact rfl; exact rfl; exact rfl) | (apply kP_cv; exact rfl; exact rfl; kernel_rfl) | (apply kP_al; exact rfl; exact rfl; exact rfl) | (apply kP_ex; exact rfl; exact rfl; kernel_rfl; exact rfl) | (apply kP_eg; exact rfl; exact rfl; kernel_rfl; exact rfl) | (apply kP_nl))
    | ((with_reducible show drawI _ _ _ _ _ _ _ _ _); first | (apply kI_rd; exact rfl) | (apply kI_rg; exact rfl; exact rfl) | (apply kI_cv; exact rfl; kernel_rfl) | (apply kI_al; exact rfl; exact rfl) | (apply kI_ex; exact rfl; kernel_rfl; exact rfl) | (apply kI_eg; exact rfl; kernel_rfl; exact rfl) | (apply kI_nl))
    | ((with_reducible show eOk _ _ _ _ _ _); first | (exact eok_nil) | (apply ke_rd; exact rfl) | (apply ke_rg; exact rfl; exact rfl) | (apply ke_cv; exact rfl; kernel_rfl) | (apply ke_al; exact rfl; exact rfl))
    | ((with_reducible apply freshIs_new); kernel_rfl)
    | (simp only [B, xB, F, Nat.reduceLT, Nat.reduceLeDiff, Nat.reduceEqDiff, Nat.reduceAdd, Nat.reduceMul, Nat.reduceSub, ↓reduceIte, eq_self, c56, K6, hso7, hsc7, put_sts, wb6, cb6]))
  rw [← h7e]
  first | replace k1 := kcell k1 o47 (by omega) (by simp) | replace k1 := kwr k1 o47 (by omega) (by simp)
  first | replace k2 := kcell k2 o47 (by omega) (by simp) | replace k2 := kwr k2 o47 (by omega) (by simp)
  first | replace k3 := kcell k3 o47 (by omega) (by simp) | replace k3 := kwr k3 o47 (by omega) (by simp)
  first | replace k4 := kcell k4 o47 (by omega) (by simp) | replace k4 := kwr k4 o47 (by omega) (by simp)
  first | replace c5 := kcell c5 o47 (by omega) (by simp) | replace c5 := kwr c5 o47 (by omega) (by simp)
  first | replace c7 := kcell c7 o47 (by omega) (by simp) | replace c7 := kwr c7 o47 (by omega) (by simp)
  have c9 : cellAt h10 h7.nx 0 = some sb := by rw [h7e, cellAt_sts wb6, if_pos ⟨rfl, Nat.le_refl _, by simp⟩]; rfl
  have hb9 := (hg7.keep o67 (fun c hc => by rw [List.mem_singleton] at hc; omega)).at
  have hg4 := hg4.keep o47
  have hs6 := hs6.only o47 (fun _ _ => by simp)
  have ha7 := ha7.keep o47
  repeat' (first
    | ((with_reducible show codeW _ _ _ _ (codeI _ _) _ _ _ _); first | (apply st_seq; exact rfl) | (refine st_reg ?_ rfl rfl ?_; exact rfl; (conv => arg 4; whnf); (conv => arg 3; whnf)) | (refine st_dp ord4_0 ?_ rfl rfl ?_; exact rfl; (conv => arg 4; whnf); (conv => arg 3; whnf)) | (refine st_dp ord4_1 ?_ rfl rfl ?_; exact rfl; (conv => arg 4; whnf); (conv => arg 3; whnf)) | (refine st_dw ?_ rfl rfl ?_ ?_; exact rfl; kernel_rfl; (conv => arg 5; whnf); (conv => arg 3; whnf)) | (refine st_cond ?_ rfl ?_; exact rfl; (conv => arg 1; arg 2; whnf)) | (refine st_block ?_ rfl ?_; exact rfl; (conv => arg 9; arg 1; whnf)) | (apply st_skip; exact rfl) | (refine st_exit ?_ rfl ?_; exact rfl; (conv in exitId _ => whnf)) | (apply st_ret; exact rfl))
    | ((with_reducible refine retW_intro rfl ?_); (conv => arg 2; whnf))
    | ((with_reducible refine ifB_split (fun hb => ?_) (fun hb => ?_)) <;> (try rw [Bool.not_true] at hb) <;> (try rw [Bool.not_false] at hb) <;> (try simp only [hb]))
    | ((with_reducible refine gW_split (fun hb => ?_) (fun hb => ?_)) <;> (try rw [Bool.not_true] at hb) <;> (try rw [Bool.not_false] at hb) <;> (try simp only [hb]))
    | ((with_reducible refine gX_split (fun hb => ?_) (fun hb => ?_)) <;> (try rw [Bool.not_true] at hb) <;> (try rw [Bool.not_false] at hb) <;> (try simp only [hb]))
    | ((with_reducible show drawP _ _ _ _ _ _ _ _ _); first | (apply kP_rd; exact rfl; exact rfl) | (apply kP_rg; exact rfl; exact rfl; exact rfl) | (apply kP_cv; exact rfl; exact rfl; kernel_rfl) | (apply kP_al; exact rfl; exact rfl; exact rfl) | (apply kP_ex; exact rfl; exact rfl; kernel_rfl; exact rfl) | (apply kP_eg; exact rfl; exact rfl; kernel_rfl; exact rfl) | (apply kP_nl))
    | ((with_reducible show drawI _ _ _ _ _ _ _ _ _); first | (apply kI_rd; exact rfl) | (apply kI_rg; exact rfl; exact rfl) | (apply kI_cv; exact rfl; kernel_rfl) | (apply kI_al; exact rfl; exact rfl) | (apply kI_ex; exact rfl; kernel_rfl; exact rfl) | (apply kI_eg; exact rfl; kernel_rfl; exact rfl) | (apply kI_nl))
    | ((with_reducible show eOk _ _ _ _ _ _); first | (exact eok_nil) | (apply ke_rd; exact rfl) | (apply ke_rg; exact rfl; exact rfl) | (apply ke_cv; exact rfl; kernel_rfl) | (apply ke_al; exact rfl; exact rfl))
    | ((with_reducible apply freshIs_new); kernel_rfl)
    | (simp only [B, xB, F, Nat.reduceLT, Nat.reduceLeDiff, Nat.reduceEqDiff, Nat.reduceAdd, Nat.reduceMul, Nat.reduceSub, ↓reduceIte, eq_self, n25, c5, k1, k2]))
  refine ((PutC (fun _ => True) h10 _ _ (a, b) (fun _ _ => trivial) (hg4.p.mono fun _ _ _ => trivial) (hz.le (by omega))).call P).mono P ?_
  rintro v h11 ⟨o11, gx, rfl, -⟩
  have x11 := o11.1
  first | replace k1 := kcell k1 o11 (by omega) (by simp) | replace k1 := kwr k1 o11 (by omega) (by simp)
  first | replace k2 := kcell k2 o11 (by omega) (by simp) | replace k2 := kwr k2 o11 (by omega) (by simp)
  first | replace k3 := kcell k3 o11 (by omega) (by simp) | replace k3 := kwr k3 o11 (by omega) (by simp)
  first | replace k4 := kcell k4 o11 (by omega) (by simp) | replace k4 := kwr k4 o11 (by omega) (by simp)
  first | replace c5 := kcell c5 o11 (by omega) (by simp) | replace c5 := kwr c5 o11 (by omega) (by simp)
  first | replace c7 := kcell c7 o11 (by omega) (by simp) | replace c7 := kwr c7 o11 (by omega) (by simp)
  first | replace c9 := kcell c9 o11 (by omega) (by simp) | replace c9 := kwr c9 o11 (by omega) (by simp)
  have hg4 := hg4.keep o11
  have ha7 := ha7.keep o11
  have hb9 := hb9.keep o11
  have hs6 := hs6.only o11 (fun _ _ => by simp)
  repeat' (first
    | ((with_reducible show codeW _ _ _ _ (codeI _ _) _ _ _ _); first | (apply st_seq; exact rfl) | (refine st_reg ?_ rfl rfl ?_; exact rfl; (conv => arg 4; whnf); (conv => arg 3; whnf)) | (refine st_dp ord4_0 ?_ rfl rfl ?_; exact rfl; (conv => arg 4; whnf); (conv => arg 3; whnf)) | (refine st_dp ord4_1 ?_ rfl rfl ?_; exact rfl; (conv => arg 4; whnf); (conv => arg 3; whnf)) | (refine st_dw ?_ rfl rfl ?_ ?_; exact rfl; kernel_rfl; (conv => arg 5; whnf); (conv => arg 3; whnf)) | (refine st_cond ?_ rfl ?_; exact rfl; (conv => arg 1; arg 2; whnf)) | (refine st_block ?_ rfl ?_; exact rfl; (conv => arg 9; arg 1; whnf)) | (apply st_skip; exact rfl) | (refine st_exit ?_ rfl ?_; exact rfl; (conv in exitId _ => whnf)) | (apply st_ret; exact rfl))
    | ((with_reducible refine retW_intro rfl ?_); (conv => arg 2; whnf))
    | ((with_reducible refine ifB_split (fun hb => ?_) (fun hb => ?_)) <;> (try rw [Bool.not_true] at hb) <;> (try rw [Bool.not_false] at hb) <;> (try simp only [hb]))
    | ((with_reducible refine gW_split (fun hb => ?_) (fun hb => ?_)) <;> (try rw [Bool.not_true] at hb) <;> (try rw [Bool.not_false] at hb) <;> (try simp only [hb]))
    | ((with_reducible refine gX_split (fun hb => ?_) (fun hb => ?_)) <;> (try rw [Bool.not_true] at hb) <;> (try rw [Bool.not_false] at hb) <;> (try simp only [hb]))
    | ((with_reducible show drawP _ _ _ _ _ _ _ _ _); first | (apply kP_rd; exact rfl; exact rfl) | (apply kP_rg; exact rfl; exact rfl; exact rfl) | (apply kP_cv; exact rfl; exact rfl; kernel_rfl) | (apply kP_al; exact rfl; exact rfl; exact rfl) | (apply kP_ex; exact rfl; exact rfl; kernel_rfl; exact rfl) | (apply kP_eg; exact rfl; exact rfl; kernel_rfl; exact rfl) | (apply kP_nl))
    | ((with_reducible show drawI _ _ _ _ _ _ _ _ _); first | (apply kI_rd; exact rfl) | (apply kI_rg; exact rfl; exact rfl) | (apply kI_cv; exact rfl; kernel_rfl) | (apply kI_al; exact rfl; exact rfl) | (apply kI_ex; exact rfl; kernel_rfl; exact rfl) | (apply kI_eg; exact rfl; kernel_rfl; exact rfl) | (apply kI_nl))
    | ((with_reducible show eOk _ _ _ _ _ _); first | (exact eok_nil) | (apply ke_rd; exact rfl) | (apply ke_rg; exact rfl; exact rfl) | (apply ke_cv; exact rfl; kernel_rfl) | (apply ke_al; exact rfl; exact rfl))
    | ((with_reducible apply freshIs_new); kernel_rfl)
    | (simp only [B, xB, F, Nat.reduceLT, Nat.reduceLeDiff, Nat.reduceEqDiff, Nat.reduceAdd, Nat.reduceMul, Nat.reduceSub, ↓reduceIte, eq_self, c5, k1, k2]))
  refine ((TombC (fun _ => True) h11 _ _ (a, b) (fun _ _ => trivial) (hg4.p.mono fun _ _ _ => trivial) (hz.le (by omega)) hw.outer).call P).mono P ?_
  rintro v h12 ⟨o12, gx2, rfl, -⟩
  have x12 := o12.1
  first | replace k1 := kcell k1 o12 (by omega) (by simp) | replace k1 := kwr k1 o12 (by omega) (by simp)
  first | replace k2 := kcell k2 o12 (by omega) (by simp) | replace k2 := kwr k2 o12 (by omega) (by simp)
  first | replace k3 := kcell k3 o12 (by omega) (by simp) | replace k3 := kwr k3 o12 (by omega) (by simp)
  first | replace k4 := kcell k4 o12 (by omega) (by simp) | replace k4 := kwr k4 o12 (by omega) (by simp)
  first | replace c5 := kcell c5 o12 (by omega) (by simp) | replace c5 := kwr c5 o12 (by omega) (by simp)
  first | replace c7 := kcell c7 o12 (by omega) (by simp) | replace c7 := kwr c7 o12 (by omega) (by simp)
  first | replace c9 := kcell c9 o12 (by omega) (by simp) | replace c9 := kwr c9 o12 (by omega) (by simp)
  have hg4 := hg4.keep o12
  have ha7 := ha7.keep o12
  have hb9 := hb9.keep o12
  have hs6 := hs6.only o12 (fun _ _ => by simp)
  repeat' (first
    | ((with_reducible show codeW _ _ _ _ (codeI _ _) _ _ _ _); first | (apply st_seq; exact rfl) | (refine st_reg ?_ rfl rfl ?_; exact rfl; (conv => arg 4; whnf); (conv => arg 3; whnf)) | (refine st_dp ord4_0 ?_ rfl rfl ?_; exact rfl; (conv => arg 4; whnf); (conv => arg 3; whnf)) | (refine st_dp ord4_1 ?_ rfl rfl ?_; exact rfl; (conv => arg 4; whnf); (conv => arg 3; whnf)) | (refine st_dw ?_ rfl rfl ?_ ?_; exact rfl; kernel_rfl; (conv => arg 5; whnf); (conv => arg 3; whnf)) | (refine st_cond ?_ rfl ?_; exact rfl; (conv => arg 1; arg 2; whnf)) | (refine st_block ?_ rfl ?_; exact rfl; (conv => arg 9; arg 1; whnf)) | (apply st_skip; exact rfl) | (refine st_exit ?_ rfl ?_; exact rfl; (conv in exitId _ => whnf)) | (apply st_ret; exact rfl))
    | ((with_reducible refine retW_intro rfl ?_); (conv => arg 2; whnf))
    | ((with_reducible refine ifB_split (fun hb => ?_) (fun hb => ?_)) <;> (try rw [Bool.not_true] at hb) <;> (try rw [Bool.not_false] at hb) <;> (try simp only [hb]))
    | ((with_reducible refine gW_split (fun hb => ?_) (fun hb => ?_)) <;> (try rw [Bool.not_true] at hb) <;> (try rw [Bool.not_false] at hb) <;> (try simp only [hb]))
    | ((with_reducible refine gX_split (fun hb => ?_) (fun hb => ?_)) <;> (try rw [Bool.not_true] at hb) <;> (try rw [Bool.not_false] at hb) <;> (try simp only [hb]))
    | ((with_reducible show drawP _ _ _ _ _ _ _ _ _); first | (apply kP_rd; exact rfl; exact rfl) | (apply kP_rg; exact rfl; exact rfl; exact rfl) | (apply kP_cv; exact rfl; exact rfl; kernel_rfl) | (apply kP_al; exact rfl; exact rfl; exact rfl) | (apply kP_ex; exact rfl; exact rfl; kernel_rfl; exact rfl) | (apply kP_eg; exact rfl; exact rfl; kernel_rfl; exact rfl) | (apply kP_nl))
    | ((with_reducible show drawI _ _ _ _ _ _ _ _ _); first | (apply kI_rd; exact rfl) | (apply kI_rg; exact rfl; exact rfl) | (apply kI_cv; exact rfl; kernel_rfl) | (apply kI_al; exact rfl; exact rfl) | (apply kI_ex; exact rfl; kernel_rfl; exact rfl) | (apply kI_eg; exact rfl; kernel_rfl; exact rfl) | (apply kI_nl))
    | ((with_reducible show eOk _ _ _ _ _ _); first | (exact eok_nil) | (apply ke_rd; exact rfl) | (apply ke_rg; exact rfl; exact rfl) | (apply ke_cv; exact rfl; kernel_rfl) | (apply ke_al; exact rfl; exact rfl))
    | ((with_reducible apply freshIs_new); kernel_rfl)
    | (simp only [B, xB, F, Nat.reduceLT, Nat.reduceLeDiff, Nat.reduceEqDiff, Nat.reduceAdd, Nat.reduceMul, Nat.reduceSub, ↓reduceIte, eq_self, c5, k1, k2, k3, k4]))
  refine ((RestC (fun _ => True) h12 _ _ (a, b) c d (fun _ _ => trivial) (hg4.p.mono fun _ _ _ => trivial) (hz.le (by omega))).call P).mono P ?_
  rintro v h13 ⟨o13, gx3, rfl, -⟩
  have x13 := o13.1
  first | replace k1 := kcell k1 o13 (by omega) (by simp) | replace k1 := kwr k1 o13 (by omega) (by simp)
  first | replace k2 := kcell k2 o13 (by omega) (by simp) | replace k2 := kwr k2 o13 (by omega) (by simp)
  first | replace k3 := kcell k3 o13 (by omega) (by simp) | replace k3 := kwr k3 o13 (by omega) (by simp)
  first | replace k4 := kcell k4 o13 (by omega) (by simp) | replace k4 := kwr k4 o13 (by omega) (by simp)
  first | replace c5 := kcell c5 o13 (by omega) (by simp) | replace c5 := kwr c5 o13 (by omega) (by simp)
  first | replace c7 := kcell c7 o13 (by omega) (by simp) | replace c7 := kwr c7 o13 (by omega) (by simp)
  first | replace c9 := kcell c9 o13 (by omega) (by simp) | replace c9 := kwr c9 o13 (by omega) (by simp)
  have hg4 := hg4.keep o13
  have ha7 := ha7.keep o13
  have hb9 := hb9.keep o13
  have hs6 := hs6.only o13 (fun _ _ => by simp)
  repeat' (first
    | ((with_reducible show codeW _ _ _ _ (codeI _ _) _ _ _ _); first | (apply st_seq; exact rfl) | (refine st_reg ?_ rfl rfl ?_; exact rfl; (conv => arg 4; whnf); (conv => arg 3; whnf)) | (refine st_dp ord4_0 ?_ rfl rfl ?_; exact rfl; (conv => arg 4; whnf); (conv => arg 3; whnf)) | (refine st_dp ord4_1 ?_ rfl rfl ?_; exact rfl; (conv => arg 4; whnf); (conv => arg 3; whnf)) | (refine st_dw ?_ rfl rfl ?_ ?_; exact rfl; kernel_rfl; (conv => arg 5; whnf); (conv => arg 3; whnf)) | (refine st_cond ?_ rfl ?_; exact rfl; (conv => arg 1; arg 2; whnf)) | (refine st_block ?_ rfl ?_; exact rfl; (conv => arg 9; arg 1; whnf)) | (apply st_skip; exact rfl) | (refine st_exit ?_ rfl ?_; exact rfl; (conv in exitId _ => whnf)) | (apply st_ret; exact rfl))
    | ((with_reducible refine retW_intro rfl ?_); (conv => arg 2; whnf))
    | ((with_reducible refine ifB_split (fun hb => ?_) (fun hb => ?_)) <;> (try rw [Bool.not_true] at hb) <;> (try rw [Bool.not_false] at hb) <;> (try simp only [hb]))
    | ((with_reducible refine gW_split (fun hb => ?_) (fun hb => ?_)) <;> (try rw [Bool.not_true] at hb) <;> (try rw [Bool.not_false] at hb) <;> (try simp only [hb]))
    | ((with_reducible refine gX_split (fun hb => ?_) (fun hb => ?_)) <;> (try rw [Bool.not_true] at hb) <;> (try rw [Bool.not_false] at hb) <;> (try simp only [hb]))
    | ((with_reducible show drawP _ _ _ _ _ _ _ _ _); first | (apply kP_rd; exact rfl; exact rfl) | (apply kP_rg; exact rfl; exact rfl; exact rfl) | (apply kP_cv; exact rfl; exact rfl; kernel_rfl) | (apply kP_al; exact rfl; exact rfl; exact rfl) | (apply kP_ex; exact rfl; exact rfl; kernel_rfl; exact rfl) | (apply kP_eg; exact rfl; exact rfl; kernel_rfl; exact rfl) | (apply kP_nl))
    | ((with_reducible show drawI _ _ _ _ _ _ _ _ _); first | (apply kI_rd; exact rfl) | (apply kI_rg; exact rfl; exact rfl) | (apply kI_cv; exact rfl; kernel_rfl) | (apply kI_al; exact rfl; exact rfl) | (apply kI_ex; exact rfl; kernel_rfl; exact rfl) | (apply kI_eg; exact rfl; kernel_rfl; exact rfl) | (apply kI_nl))
    | ((with_reducible show eOk _ _ _ _ _ _); first | (exact eok_nil) | (apply ke_rd; exact rfl) | (apply ke_rg; exact rfl; exact rfl) | (apply ke_cv; exact rfl; kernel_rfl) | (apply ke_al; exact rfl; exact rfl))
    | ((with_reducible apply freshIs_new); kernel_rfl)
    | (simp only [B, xB, F, Nat.reduceLT, Nat.reduceLeDiff, Nat.reduceEqDiff, Nat.reduceAdd, Nat.reduceMul, Nat.reduceSub, ↓reduceIte, eq_self, c5, k1]))
  refine ((compC (fun _ => True) h13 _ _ a (fun _ _ => trivial) hg4 (hz.le (by omega))).call P).mono P ?_
  rintro v h14 ⟨o14, gx4, kx, rfl, -⟩
  have x14 := o14.1
  first | replace c5 := kcell c5 o14 (by omega) (by simp) | replace c5 := kwr c5 o14 (by omega) (by simp)
  first | replace c7 := kcell c7 o14 (by omega) (by simp) | replace c7 := kwr c7 o14 (by omega) (by simp)
  first | replace c9 := kcell c9 o14 (by omega) (by simp) | replace c9 := kwr c9 o14 (by omega) (by simp)
  have hg4 := hg4.keep o14
  have ha7 := ha7.keep o14
  have hb9 := hb9.keep o14
  have hs6 := hs6.only o14 (fun _ _ => by simp)
  repeat' (first
    | ((with_reducible show codeW _ _ _ _ (codeI _ _) _ _ _ _); first | (apply st_seq; exact rfl) | (refine st_reg ?_ rfl rfl ?_; exact rfl; (conv => arg 4; whnf); (conv => arg 3; whnf)) | (refine st_dp ord4_0 ?_ rfl rfl ?_; exact rfl; (conv => arg 4; whnf); (conv => arg 3; whnf)) | (refine st_dp ord4_1 ?_ rfl rfl ?_; exact rfl; (conv => arg 4; whnf); (conv => arg 3; whnf)) | (refine st_dw ?_ rfl rfl ?_ ?_; exact rfl; kernel_rfl; (conv => arg 5; whnf); (conv => arg 3; whnf)) | (refine st_cond ?_ rfl ?_; exact rfl; (conv => arg 1; arg 2; whnf)) | (refine st_block ?_ rfl ?_; exact rfl; (conv => arg 9; arg 1; whnf)) | (apply st_skip; exact rfl) | (refine st_exit ?_ rfl ?_; exact rfl; (conv in exitId _ => whnf)) | (apply st_ret; exact rfl))
    | ((with_reducible refine retW_intro rfl ?_); (conv => arg 2; whnf))
    | ((with_reducible refine ifB_split (fun hb => ?_) (fun hb => ?_)) <;> (try rw [Bool.not_true] at hb) <;> (try rw [Bool.not_false] at hb) <;> (try simp only [hb]))
    | ((with_reducible refine gW_split (fun hb => ?_) (fun hb => ?_)) <;> (try rw [Bool.not_true] at hb) <;> (try rw [Bool.not_false] at hb) <;> (try simp only [hb]))
    | ((with_reducible refine gX_split (fun hb => ?_) (fun hb => ?_)) <;> (try rw [Bool.not_true] at hb) <;> (try rw [Bool.not_false] at hb) <;> (try simp only [hb]))
    | ((with_reducible show drawP _ _ _ _ _ _ _ _ _); first | (apply kP_rd; exact rfl; exact rfl) | (apply kP_rg; exact rfl; exact rfl; exact rfl) | (apply kP_cv; exact rfl; exact rfl; kernel_rfl) | (apply kP_al; exact rfl; exact rfl; exact rfl) | (apply kP_ex; exact rfl; exact rfl; kernel_rfl; exact rfl) | (apply kP_eg; exact rfl; exact rfl; kernel_rfl; exact rfl) | (apply kP_nl))
    | ((with_reducible show drawI _ _ _ _ _ _ _ _ _); first | (apply kI_rd; exact rfl) | (apply kI_rg; exact rfl; exact rfl) | (apply kI_cv; exact rfl; kernel_rfl) | (apply kI_al; exact rfl; exact rfl) | (apply kI_ex; exact rfl; kernel_rfl; exact rfl) | (apply kI_eg; exact rfl; kernel_rfl; exact rfl) | (apply kI_nl))
    | ((with_reducible show eOk _ _ _ _ _ _); first | (exact eok_nil) | (apply ke_rd; exact rfl) | (apply ke_rg; exact rfl; exact rfl) | (apply ke_cv; exact rfl; kernel_rfl) | (apply ke_al; exact rfl; exact rfl))
    | ((with_reducible apply freshIs_new); kernel_rfl)
    | (simp only [B, xB, F, Nat.reduceLT, Nat.reduceLeDiff, Nat.reduceEqDiff, Nat.reduceAdd, Nat.reduceMul, Nat.reduceSub, ↓reduceIte, eq_self, c5]))
  refine ((sinceC h14 _ L 0 hg4 (hz.le (by omega))).call P).mono P ?_
  rintro v11 h15 ⟨o15, gr15⟩
  have x15 := o15.1
  have hl15 := gr15.len (P := P) u29
  have hsl : (sinceL 0 (all L)).length ≤ 4000000000000 := by
    have q1 := since_len 0 (all L)
    have q2 := all_len hz.2
    have q3 : L.length * (40 + 1) ≤ 40 * (40 + 1) := Nat.mul_le_mul_right _ hz.1
    omega
  have hza : Sz 1000 (putP L (1000, 0)) := (sz_putP hz (1000, 0)).le (by omega)
  have hzb : Sz 1000 (putP L (1000, 1)) := (sz_putP hz (1000, 1)).le (by omega)
  cases hd : decide (0 < (sinceL 0 (all L)).length) with
  | false =>
    repeat' (first
      | ((with_reducible show codeW _ _ _ _ (codeI _ _) _ _ _ _); first | (apply st_seq; exact rfl) | (refine st_reg ?_ rfl rfl ?_; exact rfl; (conv => arg 4; whnf); (conv => arg 3; whnf)) | (refine st_dp ord4_0 ?_ rfl rfl ?_; exact rfl; (conv => arg 4; whnf); (conv => arg 3; whnf)) | (refine st_dp ord4_1 ?_ rfl rfl ?_; exact rfl; (conv => arg 4; whnf); (conv => arg 3; whnf)) | (refine st_dw ?_ rfl rfl ?_ ?_; exact rfl; kernel_rfl; (conv => arg 5; whnf); (conv => arg 3; whnf)) | (refine st_cond ?_ rfl ?_; exact rfl; (conv => arg 1; arg 2; whnf)) | (refine st_block ?_ rfl ?_; exact rfl; (conv => arg 9; arg 1; whnf)) | (apply st_skip; exact rfl) | (refine st_exit ?_ rfl ?_; exact rfl; (conv in exitId _ => whnf)) | (apply st_ret; exact rfl))
      | ((with_reducible refine retW_intro rfl ?_); (conv => arg 2; whnf))
      | ((with_reducible refine ifB_split (fun hb => ?_) (fun hb => ?_)) <;> (try rw [Bool.not_true] at hb) <;> (try rw [Bool.not_false] at hb) <;> (try simp only [hb]))
      | ((with_reducible refine gW_split (fun hb => ?_) (fun hb => ?_)) <;> (try rw [Bool.not_true] at hb) <;> (try rw [Bool.not_false] at hb) <;> (try simp only [hb]))
      | ((with_reducible refine gX_split (fun hb => ?_) (fun hb => ?_)) <;> (try rw [Bool.not_true] at hb) <;> (try rw [Bool.not_false] at hb) <;> (try simp only [hb]))
      | ((with_reducible show drawP _ _ _ _ _ _ _ _ _); first | (apply kP_rd; exact rfl; exact rfl) | (apply kP_rg; exact rfl; exact rfl; exact rfl) | (apply kP_cv; exact rfl; exact rfl; kernel_rfl) | (apply kP_al; exact rfl; exact rfl; exact rfl) | (apply kP_ex; exact rfl; exact rfl; kernel_rfl; exact rfl) | (apply kP_eg; exact rfl; exact rfl; kernel_rfl; exact rfl) | (apply kP_nl))
      | ((with_reducible show drawI _ _ _ _ _ _ _ _ _); first | (apply kI_rd; exact rfl) | (apply kI_rg; exact rfl; exact rfl) | (apply kI_cv; exact rfl; kernel_rfl) | (apply kI_al; exact rfl; exact rfl) | (apply kI_ex; exact rfl; kernel_rfl; exact rfl) | (apply kI_eg; exact rfl; kernel_rfl; exact rfl) | (apply kI_nl))
      | ((with_reducible show eOk _ _ _ _ _ _); first | (exact eok_nil) | (apply ke_rd; exact rfl) | (apply ke_rg; exact rfl; exact rfl) | (apply ke_cv; exact rfl; kernel_rfl) | (apply ke_al; exact rfl; exact rfl))
      | ((with_reducible apply freshIs_new); kernel_rfl)
      | (simp only [B, xB, F, Nat.reduceLT, Nat.reduceLeDiff, Nat.reduceEqDiff, Nat.reduceAdd, Nat.reduceMul, Nat.reduceSub, ↓reduceIte, eq_self, hl15, hd]))
    obtain ⟨h16, h16e⟩ : ∃ h16, h16 = h15 := ⟨_, rfl⟩
    have o16 : Only h14 h16 [] := by rw [h16e]; exact o15
    rw [← h16e]
    have x16 := o16.1
    have c516 := kcell c5 o16 (by omega) (by simp)
    have hg16 := hg4.keep o16
    repeat' (first
      | ((with_reducible show codeW _ _ _ _ (codeI _ _) _ _ _ _); first | (apply st_seq; exact rfl) | (refine st_reg ?_ rfl rfl ?_; exact rfl; (conv => arg 4; whnf); (conv => arg 3; whnf)) | (refine st_dp ord4_0 ?_ rfl rfl ?_; exact rfl; (conv => arg 4; whnf); (conv => arg 3; whnf)) | (refine st_dp ord4_1 ?_ rfl rfl ?_; exact rfl; (conv => arg 4; whnf); (conv => arg 3; whnf)) | (refine st_dw ?_ rfl rfl ?_ ?_; exact rfl; kernel_rfl; (conv => arg 5; whnf); (conv => arg 3; whnf)) | (refine st_cond ?_ rfl ?_; exact rfl; (conv => arg 1; arg 2; whnf)) | (refine st_block ?_ rfl ?_; exact rfl; (conv => arg 9; arg 1; whnf)) | (apply st_skip; exact rfl) | (refine st_exit ?_ rfl ?_; exact rfl; (conv in exitId _ => whnf)) | (apply st_ret; exact rfl))
      | ((with_reducible refine retW_intro rfl ?_); (conv => arg 2; whnf))
      | ((with_reducible refine ifB_split (fun hb => ?_) (fun hb => ?_)) <;> (try rw [Bool.not_true] at hb) <;> (try rw [Bool.not_false] at hb) <;> (try simp only [hb]))
      | ((with_reducible refine gW_split (fun hb => ?_) (fun hb => ?_)) <;> (try rw [Bool.not_true] at hb) <;> (try rw [Bool.not_false] at hb) <;> (try simp only [hb]))
      | ((with_reducible refine gX_split (fun hb => ?_) (fun hb => ?_)) <;> (try rw [Bool.not_true] at hb) <;> (try rw [Bool.not_false] at hb) <;> (try simp only [hb]))
      | ((with_reducible show drawP _ _ _ _ _ _ _ _ _); first | (apply kP_rd; exact rfl; exact rfl) | (apply kP_rg; exact rfl; exact rfl; exact rfl) | (apply kP_cv; exact rfl; exact rfl; kernel_rfl) | (apply kP_al; exact rfl; exact rfl; exact rfl) | (apply kP_ex; exact rfl; exact rfl; kernel_rfl; exact rfl) | (apply kP_eg; exact rfl; exact rfl; kernel_rfl; exact rfl) | (apply kP_nl))
      | ((with_reducible show drawI _ _ _ _ _ _ _ _ _); first | (apply kI_rd; exact rfl) | (apply kI_rg; exact rfl; exact rfl) | (apply kI_cv; exact rfl; kernel_rfl) | (apply kI_al; exact rfl; exact rfl) | (apply kI_ex; exact rfl; kernel_rfl; exact rfl) | (apply kI_eg; exact rfl; kernel_rfl; exact rfl) | (apply kI_nl))
      | ((with_reducible show eOk _ _ _ _ _ _); first | (exact eok_nil) | (apply ke_rd; exact rfl) | (apply ke_rg; exact rfl; exact rfl) | (apply ke_cv; exact rfl; kernel_rfl) | (apply ke_al; exact rfl; exact rfl))
      | ((with_reducible apply freshIs_new); kernel_rfl)
      | (simp only [B, xB, F, Nat.reduceLT, Nat.reduceLeDiff, Nat.reduceEqDiff, Nat.reduceAdd, Nat.reduceMul, Nat.reduceSub, ↓reduceIte, eq_self, c516]))
    refine ((sinceC h16 _ L 0 hg16 (hz.le (by omega))).call P).mono P ?_
    rintro v17 h17 ⟨o17, gr17⟩
    have p17 := o16.trans o17 (fun _ h => h) (fun _ h => by cases h)
    repeat' (first
      | ((with_reducible show codeW _ _ _ _ (codeI _ _) _ _ _ _); first | (apply st_seq; exact rfl) | (refine st_reg ?_ rfl rfl ?_; exact rfl; (conv => arg 4; whnf); (conv => arg 3; whnf)) | (refine st_dp ord4_0 ?_ rfl rfl ?_; exact rfl; (conv => arg 4; whnf); (conv => arg 3; whnf)) | (refine st_dp ord4_1 ?_ rfl rfl ?_; exact rfl; (conv => arg 4; whnf); (conv => arg 3; whnf)) | (refine st_dw ?_ rfl rfl ?_ ?_; exact rfl; kernel_rfl; (conv => arg 5; whnf); (conv => arg 3; whnf)) | (refine st_cond ?_ rfl ?_; exact rfl; (conv => arg 1; arg 2; whnf)) | (refine st_block ?_ rfl ?_; exact rfl; (conv => arg 9; arg 1; whnf)) | (apply st_skip; exact rfl) | (refine st_exit ?_ rfl ?_; exact rfl; (conv in exitId _ => whnf)) | (apply st_ret; exact rfl))
      | ((with_reducible refine retW_intro rfl ?_); (conv => arg 2; whnf))
      | ((with_reducible refine ifB_split (fun hb => ?_) (fun hb => ?_)) <;> (try rw [Bool.not_true] at hb) <;> (try rw [Bool.not_false] at hb) <;> (try simp only [hb]))
      | ((with_reducible refine gW_split (fun hb => ?_) (fun hb => ?_)) <;> (try rw [Bool.not_true] at hb) <;> (try rw [Bool.not_false] at hb) <;> (try simp only [hb]))
      | ((with_reducible refine gX_split (fun hb => ?_) (fun hb => ?_)) <;> (try rw [Bool.not_true] at hb) <;> (try rw [Bool.not_false] at hb) <;> (try simp only [hb]))
      | ((with_reducible show drawP _ _ _ _ _ _ _ _ _); first | (apply kP_rd; exact rfl; exact rfl) | (apply kP_rg; exact rfl; exact rfl; exact rfl) | (apply kP_cv; exact rfl; exact rfl; kernel_rfl) | (apply kP_al; exact rfl; exact rfl; exact rfl) | (apply kP_ex; exact rfl; exact rfl; kernel_rfl; exact rfl) | (apply kP_eg; exact rfl; exact rfl; kernel_rfl; exact rfl) | (apply kP_nl))
      | ((with_reducible show drawI _ _ _ _ _ _ _ _ _); first | (apply kI_rd; exact rfl) | (apply kI_rg; exact rfl; exact rfl) | (apply kI_cv; exact rfl; kernel_rfl) | (apply kI_al; exact rfl; exact rfl) | (apply kI_ex; exact rfl; kernel_rfl; exact rfl) | (apply kI_eg; exact rfl; kernel_rfl; exact rfl) | (apply kI_nl))
      | ((with_reducible show eOk _ _ _ _ _ _); first | (exact eok_nil) | (apply ke_rd; exact rfl) | (apply ke_rg; exact rfl; exact rfl) | (apply ke_cv; exact rfl; kernel_rfl) | (apply ke_al; exact rfl; exact rfl))
      | ((with_reducible apply freshIs_new); kernel_rfl)
      | (simp only [B, xB, F, Nat.reduceLT, Nat.reduceLeDiff, Nat.reduceEqDiff, Nat.reduceAdd, Nat.reduceMul, Nat.reduceSub, ↓reduceIte, eq_self]))
    refine ((revsC h17 v17 v6 _ _ gr17.slice (hs6.only p17 (fun _ _ => by simp)) hsl).call P).mono P ?_
    rintro v h18 ⟨rfl, o18⟩
    have p18 := p17.trans o18 (fun _ h => h) (fun _ h => by cases h)
    have eq1 : decide (sinceL 0 (all L) = sinceL 0 (all L)) = true := decide_eq_true rfl
    rw [eq1]
    have x30a := p18.1
    have cc30 := kcell c7 p18 (by omega) (by simp)
    repeat' (first
      | ((with_reducible show codeW _ _ _ _ (codeI _ _) _ _ _ _); first | (apply st_seq; exact rfl) | (refine st_reg ?_ rfl rfl ?_; exact rfl; (conv => arg 4; whnf); (conv => arg 3; whnf)) | (refine st_dp ord4_0 ?_ rfl rfl ?_; exact rfl; (conv => arg 4; whnf); (conv => arg 3; whnf)) | (refine st_dp ord4_1 ?_ rfl rfl ?_; exact rfl; (conv => arg 4; whnf); (conv => arg 3; whnf)) | (refine st_dw ?_ rfl rfl ?_ ?_; exact rfl; kernel_rfl; (conv => arg 5; whnf); (conv => arg 3; whnf)) | (refine st_cond ?_ rfl ?_; exact rfl; (conv => arg 1; arg 2; whnf)) | (refine st_block ?_ rfl ?_; exact rfl; (conv => arg 9; arg 1; whnf)) | (apply st_skip; exact rfl) | (refine st_exit ?_ rfl ?_; exact rfl; (conv in exitId _ => whnf)) | (apply st_ret; exact rfl))
      | ((with_reducible refine retW_intro rfl ?_); (conv => arg 2; whnf))
      | ((with_reducible refine ifB_split (fun hb => ?_) (fun hb => ?_)) <;> (try rw [Bool.not_true] at hb) <;> (try rw [Bool.not_false] at hb) <;> (try simp only [hb]))
      | ((with_reducible refine gW_split (fun hb => ?_) (fun hb => ?_)) <;> (try rw [Bool.not_true] at hb) <;> (try rw [Bool.not_false] at hb) <;> (try simp only [hb]))
      | ((with_reducible refine gX_split (fun hb => ?_) (fun hb => ?_)) <;> (try rw [Bool.not_true] at hb) <;> (try rw [Bool.not_false] at hb) <;> (try simp only [hb]))
      | ((with_reducible show drawP _ _ _ _ _ _ _ _ _); first | (apply kP_rd; exact rfl; exact rfl) | (apply kP_rg; exact rfl; exact rfl; exact rfl) | (apply kP_cv; exact rfl; exact rfl; kernel_rfl) | (apply kP_al; exact rfl; exact rfl; exact rfl) | (apply kP_ex; exact rfl; exact rfl; kernel_rfl; exact rfl) | (apply kP_eg; exact rfl; exact rfl; kernel_rfl; exact rfl) | (apply kP_nl))
      | ((with_reducible show drawI _ _ _ _ _ _ _ _ _); first | (apply kI_rd; exact rfl) | (apply kI_rg; exact rfl; exact rfl) | (apply kI_cv; exact rfl; kernel_rfl) | (apply kI_al; exact rfl; exact rfl) | (apply kI_ex; exact rfl; kernel_rfl; exact rfl) | (apply kI_eg; exact rfl; kernel_rfl; exact rfl) | (apply kI_nl))
      | ((with_reducible show eOk _ _ _ _ _ _); first | (exact eok_nil) | (apply ke_rd; exact rfl) | (apply ke_rg; exact rfl; exact rfl) | (apply ke_cv; exact rfl; kernel_rfl) | (apply ke_al; exact rfl; exact rfl))
      | ((with_reducible apply freshIs_new); kernel_rfl)
      | (simp only [B, xB, F, Nat.reduceLT, Nat.reduceLeDiff, Nat.reduceEqDiff, Nat.reduceAdd, Nat.reduceMul, Nat.reduceSub, ↓reduceIte, eq_self, cc30]))
    refine ((sinceC h18 _ (putP L (1000, 0)) 1000 (ha7.keep p18) hza).call P).mono P ?_
    rintro w30 g30 ⟨o30, gr30⟩
    rw [V0.2.2.1] at gr30
    repeat' (first
      | ((with_reducible show codeW _ _ _ _ (codeI _ _) _ _ _ _); first | (apply st_seq; exact rfl) | (refine st_reg ?_ rfl rfl ?_; exact rfl; (conv => arg 4; whnf); (conv => arg 3; whnf)) | (refine st_dp ord4_0 ?_ rfl rfl ?_; exact rfl; (conv => arg 4; whnf); (conv => arg 3; whnf)) | (refine st_dp ord4_1 ?_ rfl rfl ?_; exact rfl; (conv => arg 4; whnf); (conv => arg 3; whnf)) | (refine st_dw ?_ rfl rfl ?_ ?_; exact rfl; kernel_rfl; (conv => arg 5; whnf); (conv => arg 3; whnf)) | (refine st_cond ?_ rfl ?_; exact rfl; (conv => arg 1; arg 2; whnf)) | (refine st_block ?_ rfl ?_; exact rfl; (conv => arg 9; arg 1; whnf)) | (apply st_skip; exact rfl) | (refine st_exit ?_ rfl ?_; exact rfl; (conv in exitId _ => whnf)) | (apply st_ret; exact rfl))
      | ((with_reducible refine retW_intro rfl ?_); (conv => arg 2; whnf))
      | ((with_reducible refine ifB_split (fun hb => ?_) (fun hb => ?_)) <;> (try rw [Bool.not_true] at hb) <;> (try rw [Bool.not_false] at hb) <;> (try simp only [hb]))
      | ((with_reducible refine gW_split (fun hb => ?_) (fun hb => ?_)) <;> (try rw [Bool.not_true] at hb) <;> (try rw [Bool.not_false] at hb) <;> (try simp only [hb]))
      | ((with_reducible refine gX_split (fun hb => ?_) (fun hb => ?_)) <;> (try rw [Bool.not_true] at hb) <;> (try rw [Bool.not_false] at hb) <;> (try simp only [hb]))
      | ((with_reducible show drawP _ _ _ _ _ _ _ _ _); first | (apply kP_rd; exact rfl; exact rfl) | (apply kP_rg; exact rfl; exact rfl; exact rfl) | (apply kP_cv; exact rfl; exact rfl; kernel_rfl) | (apply kP_al; exact rfl; exact rfl; exact rfl) | (apply kP_ex; exact rfl; exact rfl; kernel_rfl; exact rfl) | (apply kP_eg; exact rfl; exact rfl; kernel_rfl; exact rfl) | (apply kP_nl))
      | ((with_reducible show drawI _ _ _ _ _ _ _ _ _); first | (apply kI_rd; exact rfl) | (apply kI_rg; exact rfl; exact rfl) | (apply kI_cv; exact rfl; kernel_rfl) | (apply kI_al; exact rfl; exact rfl) | (apply kI_ex; exact rfl; kernel_rfl; exact rfl) | (apply kI_eg; exact rfl; kernel_rfl; exact rfl) | (apply kI_nl))
      | ((with_reducible show eOk _ _ _ _ _ _); first | (exact eok_nil) | (apply ke_rd; exact rfl) | (apply ke_rg; exact rfl; exact rfl) | (apply ke_cv; exact rfl; kernel_rfl) | (apply ke_al; exact rfl; exact rfl))
      | ((with_reducible apply freshIs_new); kernel_rfl)
      | (simp only [B, xB, F, Nat.reduceLT, Nat.reduceLeDiff, Nat.reduceEqDiff, Nat.reduceAdd, Nat.reduceMul, Nat.reduceSub, ↓reduceIte, eq_self]))
    refine ((revC g30 1000 0).call P).mono P ?_
    rintro v g30b ⟨rfl, o30b⟩
    rw [show rvA (1000, 0) = .agg [.int .u64 (.ofNat 1000), .int .u64 (.ofNat 0)] from rfl]
    repeat' (first
      | ((with_reducible show codeW _ _ _ _ (codeI _ _) _ _ _ _); first | (apply st_seq; exact rfl) | (refine st_reg ?_ rfl rfl ?_; exact rfl; (conv => arg 4; whnf); (conv => arg 3; whnf)) | (refine st_dp ord4_0 ?_ rfl rfl ?_; exact rfl; (conv => arg 4; whnf); (conv => arg 3; whnf)) | (refine st_dp ord4_1 ?_ rfl rfl ?_; exact rfl; (conv => arg 4; whnf); (conv => arg 3; whnf)) | (refine st_dw ?_ rfl rfl ?_ ?_; exact rfl; kernel_rfl; (conv => arg 5; whnf); (conv => arg 3; whnf)) | (refine st_cond ?_ rfl ?_; exact rfl; (conv => arg 1; arg 2; whnf)) | (refine st_block ?_ rfl ?_; exact rfl; (conv => arg 9; arg 1; whnf)) | (apply st_skip; exact rfl) | (refine st_exit ?_ rfl ?_; exact rfl; (conv in exitId _ => whnf)) | (apply st_ret; exact rfl))
      | ((with_reducible refine retW_intro rfl ?_); (conv => arg 2; whnf))
      | ((with_reducible refine ifB_split (fun hb => ?_) (fun hb => ?_)) <;> (try rw [Bool.not_true] at hb) <;> (try rw [Bool.not_false] at hb) <;> (try simp only [hb]))
      | ((with_reducible refine gW_split (fun hb => ?_) (fun hb => ?_)) <;> (try rw [Bool.not_true] at hb) <;> (try rw [Bool.not_false] at hb) <;> (try simp only [hb]))
      | ((with_reducible refine gX_split (fun hb => ?_) (fun hb => ?_)) <;> (try rw [Bool.not_true] at hb) <;> (try rw [Bool.not_false] at hb) <;> (try simp only [hb]))
      | ((with_reducible show drawP _ _ _ _ _ _ _ _ _); first | (apply kP_rd; exact rfl; exact rfl) | (apply kP_rg; exact rfl; exact rfl; exact rfl) | (apply kP_cv; exact rfl; exact rfl; kernel_rfl) | (apply kP_al; exact rfl; exact rfl; exact rfl) | (apply kP_ex; exact rfl; exact rfl; kernel_rfl; exact rfl) | (apply kP_eg; exact rfl; exact rfl; kernel_rfl; exact rfl) | (apply kP_nl))
      | ((with_reducible show drawI _ _ _ _ _ _ _ _ _); first | (apply kI_rd; exact rfl) | (apply kI_rg; exact rfl; exact rfl) | (apply kI_cv; exact rfl; kernel_rfl) | (apply kI_al; exact rfl; exact rfl) | (apply kI_ex; exact rfl; kernel_rfl; exact rfl) | (apply kI_eg; exact rfl; kernel_rfl; exact rfl) | (apply kI_nl))
      | ((with_reducible show eOk _ _ _ _ _ _); first | (exact eok_nil) | (apply ke_rd; exact rfl) | (apply ke_rg; exact rfl; exact rfl) | (apply ke_cv; exact rfl; kernel_rfl) | (apply ke_al; exact rfl; exact rfl))
      | ((with_reducible apply freshIs_new); kernel_rfl)
      | (simp only [B, xB, F, Nat.reduceLT, Nat.reduceLeDiff, Nat.reduceEqDiff, Nat.reduceAdd, Nat.reduceMul, Nat.reduceSub, ↓reduceIte, eq_self]))
    have o30c := o30b.new 35 [.int .u64 (.ofNat 1000), .int .u64 (.ofNat 0)]
    refine ((revsC (g30b.newCells 35 [.int .u64 (.ofNat 1000), .int .u64 (.ofNat 0)]) w30 _ [(1000, 0)] [(1000, 0)] (gr30.slice.only o30c (fun _ _ => by simp)) (one_slice _ _ _) (by simp)).call P).mono P ?_
    rintro v h30 ⟨rfl, o30d⟩
    have p30 := ((p18.trans o30 (fun _ h => h) (fun _ h => by cases h)).trans o30c (fun _ h => h) (fun _ h => by cases h)).trans o30d (fun _ h => h) (fun _ h => by cases h)
    rw [show decide ([((1000, 0) : Rv)] = [(1000, 0)]) = true from decide_eq_true rfl]
    have x40a := p30.1
    have cc40 := kcell c9 p30 (by omega) (by simp)
    repeat' (first
      | ((with_reducible show codeW _ _ _ _ (codeI _ _) _ _ _ _); first | (apply st_seq; exact rfl) | (refine st_reg ?_ rfl rfl ?_; exact rfl; (conv => arg 4; whnf); (conv => arg 3; whnf)) | (refine st_dp ord4_0 ?_ rfl rfl ?_; exact rfl; (conv => arg 4; whnf); (conv => arg 3; whnf)) | (refine st_dp ord4_1 ?_ rfl rfl ?_; exact rfl; (conv => arg 4; whnf); (conv => arg 3; whnf)) | (refine st_dw ?_ rfl rfl ?_ ?_; exact rfl; kernel_rfl; (conv => arg 5; whnf); (conv => arg 3; whnf)) | (refine st_cond ?_ rfl ?_; exact rfl; (conv => arg 1; arg 2; whnf)) | (refine st_block ?_ rfl ?_; exact rfl; (conv => arg 9; arg 1; whnf)) | (apply st_skip; exact rfl) | (refine st_exit ?_ rfl ?_; exact rfl; (conv in exitId _ => whnf)) | (apply st_ret; exact rfl))
      | ((with_reducible refine retW_intro rfl ?_); (conv => arg 2; whnf))
      | ((with_reducible refine ifB_split (fun hb => ?_) (fun hb => ?_)) <;> (try rw [Bool.not_true] at hb) <;> (try rw [Bool.not_false] at hb) <;> (try simp only [hb]))
      | ((with_reducible refine gW_split (fun hb => ?_) (fun hb => ?_)) <;> (try rw [Bool.not_true] at hb) <;> (try rw [Bool.not_false] at hb) <;> (try simp only [hb]))
      | ((with_reducible refine gX_split (fun hb => ?_) (fun hb => ?_)) <;> (try rw [Bool.not_true] at hb) <;> (try rw [Bool.not_false] at hb) <;> (try simp only [hb]))
      | ((with_reducible show drawP _ _ _ _ _ _ _ _ _); first | (apply kP_rd; exact rfl; exact rfl) | (apply kP_rg; exact rfl; exact rfl; exact rfl) | (apply kP_cv; exact rfl; exact rfl; kernel_rfl) | (apply kP_al; exact rfl; exact rfl; exact rfl) | (apply kP_ex; exact rfl; exact rfl; kernel_rfl; exact rfl) | (apply kP_eg; exact rfl; exact rfl; kernel_rfl; exact rfl) | (apply kP_nl))
      | ((with_reducible show drawI _ _ _ _ _ _ _ _ _); first | (apply kI_rd; exact rfl) | (apply kI_rg; exact rfl; exact rfl) | (apply kI_cv; exact rfl; kernel_rfl) | (apply kI_al; exact rfl; exact rfl) | (apply kI_ex; exact rfl; kernel_rfl; exact rfl) | (apply kI_eg; exact rfl; kernel_rfl; exact rfl) | (apply kI_nl))
      | ((with_reducible show eOk _ _ _ _ _ _); first | (exact eok_nil) | (apply ke_rd; exact rfl) | (apply ke_rg; exact rfl; exact rfl) | (apply ke_cv; exact rfl; kernel_rfl) | (apply ke_al; exact rfl; exact rfl))
      | ((with_reducible apply freshIs_new); kernel_rfl)
      | (simp only [B, xB, F, Nat.reduceLT, Nat.reduceLeDiff, Nat.reduceEqDiff, Nat.reduceAdd, Nat.reduceMul, Nat.reduceSub, ↓reduceIte, eq_self, cc40]))
    refine ((sinceC h30 _ (putP L (1000, 1)) 1000 (hb9.keep p30) hzb).call P).mono P ?_
    rintro w40 g40 ⟨o40, gr40⟩
    rw [V1.2.2.1] at gr40
    repeat' (first
      | ((with_reducible show codeW _ _ _ _ (codeI _ _) _ _ _ _); first | (apply st_seq; exact rfl) | (refine st_reg ?_ rfl rfl ?_; exact rfl; (conv => arg 4; whnf); (conv => arg 3; whnf)) | (refine st_dp ord4_0 ?_ rfl rfl ?_; exact rfl; (conv => arg 4; whnf); (conv => arg 3; whnf)) | (refine st_dp ord4_1 ?_ rfl rfl ?_; exact rfl; (conv => arg 4; whnf); (conv => arg 3; whnf)) | (refine st_dw ?_ rfl rfl ?_ ?_; exact rfl; kernel_rfl; (conv => arg 5; whnf); (conv => arg 3; whnf)) | (refine st_cond ?_ rfl ?_; exact rfl; (conv => arg 1; arg 2; whnf)) | (refine st_block ?_ rfl ?_; exact rfl; (conv => arg 9; arg 1; whnf)) | (apply st_skip; exact rfl) | (refine st_exit ?_ rfl ?_; exact rfl; (conv in exitId _ => whnf)) | (apply st_ret; exact rfl))
      | ((with_reducible refine retW_intro rfl ?_); (conv => arg 2; whnf))
      | ((with_reducible refine ifB_split (fun hb => ?_) (fun hb => ?_)) <;> (try rw [Bool.not_true] at hb) <;> (try rw [Bool.not_false] at hb) <;> (try simp only [hb]))
      | ((with_reducible refine gW_split (fun hb => ?_) (fun hb => ?_)) <;> (try rw [Bool.not_true] at hb) <;> (try rw [Bool.not_false] at hb) <;> (try simp only [hb]))
      | ((with_reducible refine gX_split (fun hb => ?_) (fun hb => ?_)) <;> (try rw [Bool.not_true] at hb) <;> (try rw [Bool.not_false] at hb) <;> (try simp only [hb]))
      | ((with_reducible show drawP _ _ _ _ _ _ _ _ _); first | (apply kP_rd; exact rfl; exact rfl) | (apply kP_rg; exact rfl; exact rfl; exact rfl) | (apply kP_cv; exact rfl; exact rfl; kernel_rfl) | (apply kP_al; exact rfl; exact rfl; exact rfl) | (apply kP_ex; exact rfl; exact rfl; kernel_rfl; exact rfl) | (apply kP_eg; exact rfl; exact rfl; kernel_rfl; exact rfl) | (apply kP_nl))
      | ((with_reducible show drawI _ _ _ _ _ _ _ _ _); first | (apply kI_rd; exact rfl) | (apply kI_rg; exact rfl; exact rfl) | (apply kI_cv; exact rfl; kernel_rfl) | (apply kI_al; exact rfl; exact rfl) | (apply kI_ex; exact rfl; kernel_rfl; exact rfl) | (apply kI_eg; exact rfl; kernel_rfl; exact rfl) | (apply kI_nl))
      | ((with_reducible show eOk _ _ _ _ _ _); first | (exact eok_nil) | (apply ke_rd; exact rfl) | (apply ke_rg; exact rfl; exact rfl) | (apply ke_cv; exact rfl; kernel_rfl) | (apply ke_al; exact rfl; exact rfl))
      | ((with_reducible apply freshIs_new); kernel_rfl)
      | (simp only [B, xB, F, Nat.reduceLT, Nat.reduceLeDiff, Nat.reduceEqDiff, Nat.reduceAdd, Nat.reduceMul, Nat.reduceSub, ↓reduceIte, eq_self]))
    refine ((revC g40 1000 1).call P).mono P ?_
    rintro v g40b ⟨rfl, o40b⟩
    rw [show rvA (1000, 1) = .agg [.int .u64 (.ofNat 1000), .int .u64 (.ofNat 1)] from rfl]
    repeat' (first
      | ((with_reducible show codeW _ _ _ _ (codeI _ _) _ _ _ _); first | (apply st_seq; exact rfl) | (refine st_reg ?_ rfl rfl ?_; exact rfl; (conv => arg 4; whnf); (conv => arg 3; whnf)) | (refine st_dp ord4_0 ?_ rfl rfl ?_; exact rfl; (conv => arg 4; whnf); (conv => arg 3; whnf)) | (refine st_dp ord4_1 ?_ rfl rfl ?_; exact rfl; (conv => arg 4; whnf); (conv => arg 3; whnf)) | (refine st_dw ?_ rfl rfl ?_ ?_; exact rfl; kernel_rfl; (conv => arg 5; whnf); (conv => arg 3; whnf)) | (refine st_cond ?_ rfl ?_; exact rfl; (conv => arg 1; arg 2; whnf)) | (refine st_block ?_ rfl ?_; exact rfl; (conv => arg 9; arg 1; whnf)) | (apply st_skip; exact rfl) | (refine st_exit ?_ rfl ?_; exact rfl; (conv in exitId _ => whnf)) | (apply st_ret; exact rfl))
      | ((with_reducible refine retW_intro rfl ?_); (conv => arg 2; whnf))
      | ((with_reducible refine ifB_split (fun hb => ?_) (fun hb => ?_)) <;> (try rw [Bool.not_true] at hb) <;> (try rw [Bool.not_false] at hb) <;> (try simp only [hb]))
      | ((with_reducible refine gW_split (fun hb => ?_) (fun hb => ?_)) <;> (try rw [Bool.not_true] at hb) <;> (try rw [Bool.not_false] at hb) <;> (try simp only [hb]))
      | ((with_reducible refine gX_split (fun hb => ?_) (fun hb => ?_)) <;> (try rw [Bool.not_true] at hb) <;> (try rw [Bool.not_false] at hb) <;> (try simp only [hb]))
      | ((with_reducible show drawP _ _ _ _ _ _ _ _ _); first | (apply kP_rd; exact rfl; exact rfl) | (apply kP_rg; exact rfl; exact rfl; exact rfl) | (apply kP_cv; exact rfl; exact rfl; kernel_rfl) | (apply kP_al; exact rfl; exact rfl; exact rfl) | (apply kP_ex; exact rfl; exact rfl; kernel_rfl; exact rfl) | (apply kP_eg; exact rfl; exact rfl; kernel_rfl; exact rfl) | (apply kP_nl))
      | ((with_reducible show drawI _ _ _ _ _ _ _ _ _); first | (apply kI_rd; exact rfl) | (apply kI_rg; exact rfl; exact rfl) | (apply kI_cv; exact rfl; kernel_rfl) | (apply kI_al; exact rfl; exact rfl) | (apply kI_ex; exact rfl; kernel_rfl; exact rfl) | (apply kI_eg; exact rfl; kernel_rfl; exact rfl) | (apply kI_nl))
      | ((with_reducible show eOk _ _ _ _ _ _); first | (exact eok_nil) | (apply ke_rd; exact rfl) | (apply ke_rg; exact rfl; exact rfl) | (apply ke_cv; exact rfl; kernel_rfl) | (apply ke_al; exact rfl; exact rfl))
      | ((with_reducible apply freshIs_new); kernel_rfl)
      | (simp only [B, xB, F, Nat.reduceLT, Nat.reduceLeDiff, Nat.reduceEqDiff, Nat.reduceAdd, Nat.reduceMul, Nat.reduceSub, ↓reduceIte, eq_self]))
    have o40c := o40b.new 35 [.int .u64 (.ofNat 1000), .int .u64 (.ofNat 1)]
    refine ((revsC (g40b.newCells 35 [.int .u64 (.ofNat 1000), .int .u64 (.ofNat 1)]) w40 _ [(1000, 1)] [(1000, 1)] (gr40.slice.only o40c (fun _ _ => by simp)) (one_slice _ _ _) (by simp)).call P).mono P ?_
    rintro v h40 ⟨rfl, o40d⟩
    have p40 := ((p30.trans o40 (fun _ h => h) (fun _ h => by cases h)).trans o40c (fun _ h => h) (fun _ h => by cases h)).trans o40d (fun _ h => h) (fun _ h => by cases h)
    rw [show decide ([((1000, 1) : Rv)] = [(1000, 1)]) = true from decide_eq_true rfl]
    have x50a := p40.1
    have cc50 := kcell c7 p40 (by omega) (by simp)
    repeat' (first
      | ((with_reducible show codeW _ _ _ _ (codeI _ _) _ _ _ _); first | (apply st_seq; exact rfl) | (refine st_reg ?_ rfl rfl ?_; exact rfl; (conv => arg 4; whnf); (conv => arg 3; whnf)) | (refine st_dp ord4_0 ?_ rfl rfl ?_; exact rfl; (conv => arg 4; whnf); (conv => arg 3; whnf)) | (refine st_dp ord4_1 ?_ rfl rfl ?_; exact rfl; (conv => arg 4; whnf); (conv => arg 3; whnf)) | (refine st_dw ?_ rfl rfl ?_ ?_; exact rfl; kernel_rfl; (conv => arg 5; whnf); (conv => arg 3; whnf)) | (refine st_cond ?_ rfl ?_; exact rfl; (conv => arg 1; arg 2; whnf)) | (refine st_block ?_ rfl ?_; exact rfl; (conv => arg 9; arg 1; whnf)) | (apply st_skip; exact rfl) | (refine st_exit ?_ rfl ?_; exact rfl; (conv in exitId _ => whnf)) | (apply st_ret; exact rfl))
      | ((with_reducible refine retW_intro rfl ?_); (conv => arg 2; whnf))
      | ((with_reducible refine ifB_split (fun hb => ?_) (fun hb => ?_)) <;> (try rw [Bool.not_true] at hb) <;> (try rw [Bool.not_false] at hb) <;> (try simp only [hb]))
      | ((with_reducible refine gW_split (fun hb => ?_) (fun hb => ?_)) <;> (try rw [Bool.not_true] at hb) <;> (try rw [Bool.not_false] at hb) <;> (try simp only [hb]))
      | ((with_reducible refine gX_split (fun hb => ?_) (fun hb => ?_)) <;> (try rw [Bool.not_true] at hb) <;> (try rw [Bool.not_false] at hb) <;> (try simp only [hb]))
      | ((with_reducible show drawP _ _ _ _ _ _ _ _ _); first | (apply kP_rd; exact rfl; exact rfl) | (apply kP_rg; exact rfl; exact rfl; exact rfl) | (apply kP_cv; exact rfl; exact rfl; kernel_rfl) | (apply kP_al; exact rfl; exact rfl; exact rfl) | (apply kP_ex; exact rfl; exact rfl; kernel_rfl; exact rfl) | (apply kP_eg; exact rfl; exact rfl; kernel_rfl; exact rfl) | (apply kP_nl))
      | ((with_reducible show drawI _ _ _ _ _ _ _ _ _); first | (apply kI_rd; exact rfl) | (apply kI_rg; exact rfl; exact rfl) | (apply kI_cv; exact rfl; kernel_rfl) | (apply kI_al; exact rfl; exact rfl) | (apply kI_ex; exact rfl; kernel_rfl; exact rfl) | (apply kI_eg; exact rfl; kernel_rfl; exact rfl) | (apply kI_nl))
      | ((with_reducible show eOk _ _ _ _ _ _); first | (exact eok_nil) | (apply ke_rd; exact rfl) | (apply ke_rg; exact rfl; exact rfl) | (apply ke_cv; exact rfl; kernel_rfl) | (apply ke_al; exact rfl; exact rfl))
      | ((with_reducible apply freshIs_new); kernel_rfl)
      | (simp only [B, xB, F, Nat.reduceLT, Nat.reduceLeDiff, Nat.reduceEqDiff, Nat.reduceAdd, Nat.reduceMul, Nat.reduceSub, ↓reduceIte, eq_self, cc50]))
    refine ((sinceC h40 _ (putP L (1000, 0)) 0 (ha7.keep p40) hza).call P).mono P ?_
    rintro w50 h50 ⟨o50, gr50⟩
    have hl50 := gr50.len (P := P) u29
    have hl6 := hs6.len (P := P) u29
    have e50 : wrapF .i64 (Int.ofNat (sinceL 0 (all L)).length + Int.ofNat 1) = Int.ofNat ((sinceL 0 (all L)).length + 1) := i64_add (by omega)
    have e51 : decide ((sinceL 0 (all (putP L (1000, 0)))).length = (sinceL 0 (all L)).length + 1) = true := decide_eq_true V0.2.2.2
    repeat' (first
      | ((with_reducible show codeW _ _ _ _ (codeI _ _) _ _ _ _); first | (apply st_seq; exact rfl) | (refine st_reg ?_ rfl rfl ?_; exact rfl; (conv => arg 4; whnf); (conv => arg 3; whnf)) | (refine st_dp ord4_0 ?_ rfl rfl ?_; exact rfl; (conv => arg 4; whnf); (conv => arg 3; whnf)) | (refine st_dp ord4_1 ?_ rfl rfl ?_; exact rfl; (conv => arg 4; whnf); (conv => arg 3; whnf)) | (refine st_dw ?_ rfl rfl ?_ ?_; exact rfl; kernel_rfl; (conv => arg 5; whnf); (conv => arg 3; whnf)) | (refine st_cond ?_ rfl ?_; exact rfl; (conv => arg 1; arg 2; whnf)) | (refine st_block ?_ rfl ?_; exact rfl; (conv => arg 9; arg 1; whnf)) | (apply st_skip; exact rfl) | (refine st_exit ?_ rfl ?_; exact rfl; (conv in exitId _ => whnf)) | (apply st_ret; exact rfl))
      | ((with_reducible refine retW_intro rfl ?_); (conv => arg 2; whnf))
      | ((with_reducible refine ifB_split (fun hb => ?_) (fun hb => ?_)) <;> (try rw [Bool.not_true] at hb) <;> (try rw [Bool.not_false] at hb) <;> (try simp only [hb]))
      | ((with_reducible refine gW_split (fun hb => ?_) (fun hb => ?_)) <;> (try rw [Bool.not_true] at hb) <;> (try rw [Bool.not_false] at hb) <;> (try simp only [hb]))
      | ((with_reducible refine gX_split (fun hb => ?_) (fun hb => ?_)) <;> (try rw [Bool.not_true] at hb) <;> (try rw [Bool.not_false] at hb) <;> (try simp only [hb]))
      | ((with_reducible show drawP _ _ _ _ _ _ _ _ _); first | (apply kP_rd; exact rfl; exact rfl) | (apply kP_rg; exact rfl; exact rfl; exact rfl) | (apply kP_cv; exact rfl; exact rfl; kernel_rfl) | (apply kP_al; exact rfl; exact rfl; exact rfl) | (apply kP_ex; exact rfl; exact rfl; kernel_rfl; exact rfl) | (apply kP_eg; exact rfl; exact rfl; kernel_rfl; exact rfl) | (apply kP_nl))
      | ((with_reducible show drawI _ _ _ _ _ _ _ _ _); first | (apply kI_rd; exact rfl) | (apply kI_rg; exact rfl; exact rfl) | (apply kI_cv; exact rfl; kernel_rfl) | (apply kI_al; exact rfl; exact rfl) | (apply kI_ex; exact rfl; kernel_rfl; exact rfl) | (apply kI_eg; exact rfl; kernel_rfl; exact rfl) | (apply kI_nl))
      | ((with_reducible show eOk _ _ _ _ _ _); first | (exact eok_nil) | (apply ke_rd; exact rfl) | (apply ke_rg; exact rfl; exact rfl) | (apply ke_cv; exact rfl; kernel_rfl) | (apply ke_al; exact rfl; exact rfl))
      | ((with_reducible apply freshIs_new); kernel_rfl)
      | (simp only [B, xB, F, Nat.reduceLT, Nat.reduceLeDiff, Nat.reduceEqDiff, Nat.reduceAdd, Nat.reduceMul, Nat.reduceSub, ↓reduceIte, eq_self, hl50, hl6, e50, e51]))
    rfl
  | true =>
    repeat' (first
      | ((with_reducible show codeW _ _ _ _ (codeI _ _) _ _ _ _); first | (apply st_seq; exact rfl) | (refine st_reg ?_ rfl rfl ?_; exact rfl; (conv => arg 4; whnf); (conv => arg 3; whnf)) | (refine st_dp ord4_0 ?_ rfl rfl ?_; exact rfl; (conv => arg 4; whnf); (conv => arg 3; whnf)) | (refine st_dp ord4_1 ?_ rfl rfl ?_; exact rfl; (conv => arg 4; whnf); (conv => arg 3; whnf)) | (refine st_dw ?_ rfl rfl ?_ ?_; exact rfl; kernel_rfl; (conv => arg 5; whnf); (conv => arg 3; whnf)) | (refine st_cond ?_ rfl ?_; exact rfl; (conv => arg 1; arg 2; whnf)) | (refine st_block ?_ rfl ?_; exact rfl; (conv => arg 9; arg 1; whnf)) | (apply st_skip; exact rfl) | (refine st_exit ?_ rfl ?_; exact rfl; (conv in exitId _ => whnf)) | (apply st_ret; exact rfl))
      | ((with_reducible refine retW_intro rfl ?_); (conv => arg 2; whnf))
      | ((with_reducible refine ifB_split (fun hb => ?_) (fun hb => ?_)) <;> (try rw [Bool.not_true] at hb) <;> (try rw [Bool.not_false] at hb) <;> (try simp only [hb]))
      | ((with_reducible refine gW_split (fun hb => ?_) (fun hb => ?_)) <;> (try rw [Bool.not_true] at hb) <;> (try rw [Bool.not_false] at hb) <;> (try simp only [hb]))
      | ((with_reducible refine gX_split (fun hb => ?_) (fun hb => ?_)) <;> (try rw [Bool.not_true] at hb) <;> (try rw [Bool.not_false] at hb) <;> (try simp only [hb]))
      | ((with_reducible show drawP _ _ _ _ _ _ _ _ _); first | (apply kP_rd; exact rfl; exact rfl) | (apply kP_rg; exact rfl; exact rfl; exact rfl) | (apply kP_cv; exact rfl; exact rfl; kernel_rfl) | (apply kP_al; exact rfl; exact rfl; exact rfl) | (apply kP_ex; exact rfl; exact rfl; kernel_rfl; exact rfl) | (apply kP_eg; exact rfl; exact rfl; kernel_rfl; exact rfl) | (apply kP_nl))
      | ((with_reducible show drawI _ _ _ _ _ _ _ _ _); first | (apply kI_rd; exact rfl) | (apply kI_rg; exact rfl; exact rfl) | (apply kI_cv; exact rfl; kernel_rfl) | (apply kI_al; exact rfl; exact rfl) | (apply kI_ex; exact rfl; kernel_rfl; exact rfl) | (apply kI_eg; exact rfl; kernel_rfl; exact rfl) | (apply kI_nl))
      | ((with_reducible show eOk _ _ _ _ _ _); first | (exact eok_nil) | (apply ke_rd; exact rfl) | (apply ke_rg; exact rfl; exact rfl) | (apply ke_cv; exact rfl; kernel_rfl) | (apply ke_al; exact rfl; exact rfl))
      | ((with_reducible apply freshIs_new); kernel_rfl)
      | (simp only [B, xB, F, Nat.reduceLT, Nat.reduceLeDiff, Nat.reduceEqDiff, Nat.reduceAdd, Nat.reduceMul, Nat.reduceSub, ↓reduceIte, eq_self, hl15, hd]))
    refine ((revC h15 99 99).call P).mono P ?_
    rintro v h15b ⟨rfl, o15b⟩
    rw [show rvA (99, 99) = .agg [.int .u64 (.ofNat 99), .int .u64 (.ofNat 99)] from rfl]
    have x15b := o15b.1
    have gr15b : Grows 2 h14.nx h15b v11 _ _ := gr15.of_get x15b (fun b hb => o15b.2 b (gr15.base hb).2 (by simp))
    have hpos := of_decide_eq_true hd
    obtain ⟨b11, ob11, cap11, rfl, hb11, _⟩ := gr15b.slice.place hpos
    obtain ⟨y, hy⟩ : ∃ y, (sinceL 0 (all L))[0]? = some y := ⟨_, List.getElem?_eq_getElem hpos⟩
    obtain ⟨z0, z1⟩ := rvC_at gr15b.slice hy
    have hw11 := gr15b.wr rfl
    have hb11l := (gr15b.base rfl).1
    have ltp : (0 < (sinceL 0 (all L)).length) = True := by simp [hpos]
    simp only [Nat.zero_mul, Nat.zero_add, Nat.add_zero] at z0 z1
    have nb11 : (h2.nx = b11) = False := by simp; omega
    have c5b := kcell c5 (o15.trans o15b (fun _ h => h) (fun _ h => by cases h)) (by omega) (by simp)
    repeat' (first
      | ((with_reducible show codeW _ _ _ _ (codeI _ _) _ _ _ _); first | (apply st_seq; exact rfl) | (refine st_reg ?_ rfl rfl ?_; exact rfl; (conv => arg 4; whnf); (conv => arg 3; whnf)) | (refine st_dp ord4_0 ?_ rfl rfl ?_; exact rfl; (conv => arg 4; whnf); (conv => arg 3; whnf)) | (refine st_dp ord4_1 ?_ rfl rfl ?_; exact rfl; (conv => arg 4; whnf); (conv => arg 3; whnf)) | (refine st_dw ?_ rfl rfl ?_ ?_; exact rfl; kernel_rfl; (conv => arg 5; whnf); (conv => arg 3; whnf)) | (refine st_cond ?_ rfl ?_; exact rfl; (conv => arg 1; arg 2; whnf)) | (refine st_block ?_ rfl ?_; exact rfl; (conv => arg 9; arg 1; whnf)) | (apply st_skip; exact rfl) | (refine st_exit ?_ rfl ?_; exact rfl; (conv in exitId _ => whnf)) | (apply st_ret; exact rfl))
      | ((with_reducible refine retW_intro rfl ?_); (conv => arg 2; whnf))
      | ((with_reducible refine ifB_split (fun hb => ?_) (fun hb => ?_)) <;> (try rw [Bool.not_true] at hb) <;> (try rw [Bool.not_false] at hb) <;> (try simp only [hb]))
      | ((with_reducible refine gW_split (fun hb => ?_) (fun hb => ?_)) <;> (try rw [Bool.not_true] at hb) <;> (try rw [Bool.not_false] at hb) <;> (try simp only [hb]))
      | ((with_reducible refine gX_split (fun hb => ?_) (fun hb => ?_)) <;> (try rw [Bool.not_true] at hb) <;> (try rw [Bool.not_false] at hb) <;> (try simp only [hb]))
      | ((with_reducible show drawP _ _ _ _ _ _ _ _ _); first | (apply kP_rd; exact rfl; exact rfl) | (apply kP_rg; exact rfl; exact rfl; exact rfl) | (apply kP_cv; exact rfl; exact rfl; kernel_rfl) | (apply kP_al; exact rfl; exact rfl; exact rfl) | (apply kP_ex; exact rfl; exact rfl; kernel_rfl; exact rfl) | (apply kP_eg; exact rfl; exact rfl; kernel_rfl; exact rfl) | (apply kP_nl))
      | ((with_reducible show drawI _ _ _ _ _ _ _ _ _); first | (apply kI_rd; exact rfl) | (apply kI_rg; exact rfl; exact rfl) | (apply kI_cv; exact rfl; kernel_rfl) | (apply kI_al; exact rfl; exact rfl) | (apply kI_ex; exact rfl; kernel_rfl; exact rfl) | (apply kI_eg; exact rfl; kernel_rfl; exact rfl) | (apply kI_nl))
      | ((with_reducible show eOk _ _ _ _ _ _); first | (exact eok_nil) | (apply ke_rd; exact rfl) | (apply ke_rg; exact rfl; exact rfl) | (apply ke_cv; exact rfl; kernel_rfl) | (apply ke_al; exact rfl; exact rfl))
      | ((with_reducible apply freshIs_new); kernel_rfl)
      | (simp only [B, xB, F, Nat.reduceLT, Nat.reduceLeDiff, Nat.reduceEqDiff, Nat.reduceAdd, Nat.reduceMul, Nat.reduceSub, ↓reduceIte, eq_self, ltp, put_sts, hw11, z0, z1, nb11, c5b, cellAt_sts hw11, false_and, Nat.zero_mul, Nat.add_zero]))
    obtain ⟨h16, h16e⟩ : ∃ h16, h16 = h15b.sts b11 ob11 [.int .u64 (.ofNat 99), .int .u64 (.ofNat 99)] := ⟨_, rfl⟩
    have o16 : Only h14 h16 [] := by
      rw [h16e]; exact (o15.trans o15b (fun _ h => h) (fun _ h => by cases h)).sts (.inr hb11l)
    rw [← h16e]
    have x16 := o16.1
    have c516 := kcell c5 o16 (by omega) (by simp)
    have hg16 := hg4.keep o16
    refine ((sinceC h16 _ L 0 hg16 (hz.le (by omega))).call P).mono P ?_
    rintro v17 h17 ⟨o17, gr17⟩
    have p17 := o16.trans o17 (fun _ h => h) (fun _ h => by cases h)
    repeat' (first
      | ((with_reducible show codeW _ _ _ _ (codeI _ _) _ _ _ _); first | (apply st_seq; exact rfl) | (refine st_reg ?_ rfl rfl ?_; exact rfl; (conv => arg 4; whnf); (conv => arg 3; whnf)) | (refine st_dp ord4_0 ?_ rfl rfl ?_; exact rfl; (conv => arg 4; whnf); (conv => arg 3; whnf)) | (refine st_dp ord4_1 ?_ rfl rfl ?_; exact rfl; (conv => arg 4; whnf); (conv => arg 3; whnf)) | (refine st_dw ?_ rfl rfl ?_ ?_; exact rfl; kernel_rfl; (conv => arg 5; whnf); (conv => arg 3; whnf)) | (refine st_cond ?_ rfl ?_; exact rfl; (conv => arg 1; arg 2; whnf)) | (refine st_block ?_ rfl ?_; exact rfl; (conv => arg 9; arg 1; whnf)) | (apply st_skip; exact rfl) | (refine st_exit ?_ rfl ?_; exact rfl; (conv in exitId _ => whnf)) | (apply st_ret; exact rfl))
      | ((with_reducible refine retW_intro rfl ?_); (conv => arg 2; whnf))
      | ((with_reducible refine ifB_split (fun hb => ?_) (fun hb => ?_)) <;> (try rw [Bool.not_true] at hb) <;> (try rw [Bool.not_false] at hb) <;> (try simp only [hb]))
      | ((with_reducible refine gW_split (fun hb => ?_) (fun hb => ?_)) <;> (try rw [Bool.not_true] at hb) <;> (try rw [Bool.not_false] at hb) <;> (try simp only [hb]))
      | ((with_reducible refine gX_split (fun hb => ?_) (fun hb => ?_)) <;> (try rw [Bool.not_true] at hb) <;> (try rw [Bool.not_false] at hb) <;> (try simp only [hb]))
      | ((with_reducible show drawP _ _ _ _ _ _ _ _ _); first | (apply kP_rd; exact rfl; exact rfl) | (apply kP_rg; exact rfl; exact rfl; exact rfl) | (apply kP_cv; exact rfl; exact rfl; kernel_rfl) | (apply kP_al; exact rfl; exact rfl; exact rfl) | (apply kP_ex; exact rfl; exact rfl; kernel_rfl; exact rfl) | (apply kP_eg; exact rfl; exact rfl; kernel_rfl; exact rfl) | (apply kP_nl))
      | ((with_reducible show drawI _ _ _ _ _ _ _ _ _); first | (apply kI_rd; exact rfl) | (apply kI_rg; exact rfl; exact rfl) | (apply kI_cv; exact rfl; kernel_rfl) | (apply kI_al; exact rfl; exact rfl) | (apply kI_ex; exact rfl; kernel_rfl; exact rfl) | (apply kI_eg; exact rfl; kernel_rfl; exact rfl) | (apply kI_nl))
      | ((with_reducible show eOk _ _ _ _ _ _); first | (exact eok_nil) | (apply ke_rd; exact rfl) | (apply ke_rg; exact rfl; exact rfl) | (apply ke_cv; exact rfl; kernel_rfl) | (apply ke_al; exact rfl; exact rfl))
      | ((with_reducible apply freshIs_new); kernel_rfl)
      | (simp only [B, xB, F, Nat.reduceLT, Nat.reduceLeDiff, Nat.reduceEqDiff, Nat.reduceAdd, Nat.reduceMul, Nat.reduceSub, ↓reduceIte, eq_self]))
    refine ((revsC h17 v17 v6 _ _ gr17.slice (hs6.only p17 (fun _ _ => by simp)) hsl).call P).mono P ?_
    rintro v h18 ⟨rfl, o18⟩
    have p18 := p17.trans o18 (fun _ h => h) (fun _ h => by cases h)
    have eq1 : decide (sinceL 0 (all L) = sinceL 0 (all L)) = true := decide_eq_true rfl
    rw [eq1]
    have x30a := p18.1
    have cc30 := kcell c7 p18 (by omega) (by simp)
    repeat' (first
      | ((with_reducible show codeW _ _ _ _ (codeI _ _) _ _ _ _); first | (apply st_seq; exact rfl) | (refine st_reg ?_ rfl rfl ?_; exact rfl; (conv => arg 4; whnf); (conv => arg 3; whnf)) | (refine st_dp ord4_0 ?_ rfl rfl ?_; exact rfl; (conv => arg 4; whnf); (conv => arg 3; whnf)) | (refine st_dp ord4_1 ?_ rfl rfl ?_; exact rfl; (conv => arg 4; whnf); (conv => arg 3; whnf)) | (refine st_dw ?_ rfl rfl ?_ ?_; exact rfl; kernel_rfl; (conv => arg 5; whnf); (conv => arg 3; whnf)) | (refine st_cond ?_ rfl ?_; exact rfl; (conv => arg 1; arg 2; whnf)) | (refine st_block ?_ rfl ?_; exact rfl; (conv => arg 9; arg 1; whnf)) | (apply st_skip; exact rfl) | (refine st_exit ?_ rfl ?_; exact rfl; (conv in exitId _ => whnf)) | (apply st_ret; exact rfl))
      | ((with_reducible refine retW_intro rfl ?_); (conv => arg 2; whnf))
      | ((with_reducible refine ifB_split (fun hb => ?_) (fun hb => ?_)) <;> (try rw [Bool.not_true] at hb) <;> (try rw [Bool.not_false] at hb) <;> (try simp only [hb]))
      | ((with_reducible refine gW_split (fun hb => ?_) (fun hb => ?_)) <;> (try rw [Bool.not_true] at hb) <;> (try rw [Bool.not_false] at hb) <;> (try simp only [hb]))
      | ((with_reducible refine gX_split (fun hb => ?_) (fun hb => ?_)) <;> (try rw [Bool.not_true] at hb) <;> (try rw [Bool.not_false] at hb) <;> (try simp only [hb]))
      | ((with_reducible show drawP _ _ _ _ _ _ _ _ _); first | (apply kP_rd; exact rfl; exact rfl) | (apply kP_rg; exact rfl; exact rfl; exact rfl) | (apply kP_cv; exact rfl; exact rfl; kernel_rfl) | (apply kP_al; exact rfl; exact rfl; exact rfl) | (apply kP_ex; exact rfl; exact rfl; kernel_rfl; exact rfl) | (apply kP_eg; exact rfl; exact rfl; kernel_rfl; exact rfl) | (apply kP_nl))
      | ((with_reducible show drawI _ _ _ _ _ _ _ _ _); first | (apply kI_rd; exact rfl) | (apply kI_rg; exact rfl; exact rfl) | (apply kI_cv; exact rfl; kernel_rfl) | (apply kI_al; exact rfl; exact rfl) | (apply kI_ex; exact rfl; kernel_rfl; exact rfl) | (apply kI_eg; exact rfl; kernel_rfl; exact rfl) | (apply kI_nl))
      | ((with_reducible show eOk _ _ _ _ _ _); first | (exact eok_nil) | (apply ke_rd; exact rfl) | (apply ke_rg; exact rfl; exact rfl) | (apply ke_cv; exact rfl; kernel_rfl) | (apply ke_al; exact rfl; exact rfl))
      | ((with_reducible apply freshIs_new); kernel_rfl)
      | (simp only [B, xB, F, Nat.reduceLT, Nat.reduceLeDiff, Nat.reduceEqDiff, Nat.reduceAdd, Nat.reduceMul, Nat.reduceSub, ↓reduceIte, eq_self, cc30]))
    refine ((sinceC h18 _ (putP L (1000, 0)) 1000 (ha7.keep p18) hza).call P).mono P ?_
    rintro w30 g30 ⟨o30, gr30⟩
    rw [V0.2.2.1] at gr30
    repeat' (first
      | ((with_reducible show codeW _ _ _ _ (codeI _ _) _ _ _ _); first | (apply st_seq; exact rfl) | (refine st_reg ?_ rfl rfl ?_; exact rfl; (conv => arg 4; whnf); (conv => arg 3; whnf)) | (refine st_dp ord4_0 ?_ rfl rfl ?_; exact rfl; (conv => arg 4; whnf); (conv => arg 3; whnf)) | (refine st_dp ord4_1 ?_ rfl rfl ?_; exact rfl; (conv => arg 4; whnf); (conv => arg 3; whnf)) | (refine st_dw ?_ rfl rfl ?_ ?_; exact rfl; kernel_rfl; (conv => arg 5; whnf); (conv => arg 3; whnf)) | (refine st_cond ?_ rfl ?_; exact rfl; (conv => arg 1; arg 2; whnf)) | (refine st_block ?_ rfl ?_; exact rfl; (conv => arg 9; arg 1; whnf)) | (apply st_skip; exact rfl) | (refine st_exit ?_ rfl ?_; exact rfl; (conv in exitId _ => whnf)) | (apply st_ret; exact rfl))
      | ((with_reducible refine retW_intro rfl ?_); (conv => arg 2; whnf))
      | ((with_reducible refine ifB_split (fun hb => ?_) (fun hb => ?_)) <;> (try rw [Bool.not_true] at hb) <;> (try rw [Bool.not_false] at hb) <;> (try simp only [hb]))
      | ((with_reducible refine gW_split (fun hb => ?_) (fun hb => ?_)) <;> (try rw [Bool.not_true] at hb) <;> (try rw [Bool.not_false] at hb) <;> (try simp only [hb]))
      | ((with_reducible refine gX_split (fun hb => ?_) (fun hb => ?_)) <;> (try rw [Bool.not_true] at hb) <;> (try rw [Bool.not_false] at hb) <;> (try simp only [hb]))
      | ((with_reducible show drawP _ _ _ _ _ _ _ _ _); first | (apply kP_rd; exact rfl; exact rfl) | (apply kP_rg; exact rfl; exact rfl; exact rfl) | (apply kP_cv; exact rfl; exact rfl; kernel_rfl) | (apply kP_al; exact rfl; exact rfl; exact rfl) | (apply kP_ex; exact rfl; exact rfl; kernel_rfl; exact rfl) | (apply kP_eg; exact rfl; exact rfl; kernel_rfl; exact rfl) | (apply kP_nl))
      | ((with_reducible show drawI _ _ _ _ _ _ _ _ _); first | (apply kI_rd; exact rfl) | (apply kI_rg; exact rfl; exact rfl) | (apply kI_cv; exact rfl; kernel_rfl) | (apply kI_al; exact rfl; exact rfl) | (apply kI_ex; exact rfl; kernel_rfl; exact rfl) | (apply kI_eg; exact rfl; kernel_rfl; exact rfl) | (apply kI_nl))
      | ((with_reducible show eOk _ _ _ _ _ _); first | (exact eok_nil) | (apply ke_rd; exact rfl) | (apply ke_rg; exact rfl; exact rfl) | (apply ke_cv; exact rfl; kernel_rfl) | (apply ke_al; exact rfl; exact rfl))
      | ((with_reducible apply freshIs_new); kernel_rfl)
      | (simp only [B, xB, F, Nat.reduceLT, Nat.reduceLeDiff, Nat.reduceEqDiff, Nat.reduceAdd, Nat.reduceMul, Nat.reduceSub, ↓reduceIte, eq_self]))
    refine ((revC g30 1000 0).call P).mono P ?_
    rintro v g30b ⟨rfl, o30b⟩
    rw [show rvA (1000, 0) = .agg [.int .u64 (.ofNat 1000), .int .u64 (.ofNat 0)] from rfl]
    repeat' (first
      | ((with_reducible show codeW _ _ _ _ (codeI _ _) _ _ _ _); first | (apply st_seq; exact rfl) | (refine st_reg ?_ rfl rfl ?_; exact rfl; (conv => arg 4; whnf); (conv => arg 3; whnf)) | (refine st_dp ord4_0 ?_ rfl rfl ?_; exact rfl; (conv => arg 4; whnf); (conv => arg 3; whnf)) | (refine st_dp ord4_1 ?_ rfl rfl ?_; exact rfl; (conv => arg 4; whnf); (conv => arg 3; whnf)) | (refine st_dw ?_ rfl rfl ?_ ?_; exact rfl; kernel_rfl; (conv => arg 5; whnf); (conv => arg 3; whnf)) | (refine st_cond ?_ rfl ?_; exact rfl; (conv => arg 1; arg 2; whnf)) | (refine st_block ?_ rfl ?_; exact rfl; (conv => arg 9; arg 1; whnf)) | (apply st_skip; exact rfl) | (refine st_exit ?_ rfl ?_; exact rfl; (conv in exitId _ => whnf)) | (apply st_ret; exact rfl))
      | ((with_reducible refine retW_intro rfl ?_); (conv => arg 2; whnf))
      | ((with_reducible refine ifB_split (fun hb => ?_) (fun hb => ?_)) <;> (try rw [Bool.not_true] at hb) <;> (try rw [Bool.not_false] at hb) <;> (try simp only [hb]))
      | ((with_reducible refine gW_split (fun hb => ?_) (fun hb => ?_)) <;> (try rw [Bool.not_true] at hb) <;> (try rw [Bool.not_false] at hb) <;> (try simp only [hb]))
      | ((with_reducible refine gX_split (fun hb => ?_) (fun hb => ?_)) <;> (try rw [Bool.not_true] at hb) <;> (try rw [Bool.not_false] at hb) <;> (try simp only [hb]))
      | ((with_reducible show drawP _ _ _ _ _ _ _ _ _); first | (apply kP_rd; exact rfl; exact rfl) | (apply kP_rg; exact rfl; exact rfl; exact rfl) | (apply kP_cv; exact rfl; exact rfl; kernel_rfl) | (apply kP_al; exact rfl; exact rfl; exact rfl) | (apply kP_ex; exact rfl; exact rfl; kernel_rfl; exact rfl) | (apply kP_eg; exact rfl; exact rfl; kernel_rfl; exact rfl) | (apply kP_nl))
      | ((with_reducible show drawI _ _ _ _ _ _ _ _ _); first | (apply kI_rd; exact rfl) | (apply kI_rg; exact rfl; exact rfl) | (apply kI_cv; exact rfl; kernel_rfl) | (apply kI_al; exact rfl; exact rfl) | (apply kI_ex; exact rfl; kernel_rfl; exact rfl) | (apply kI_eg; exact rfl; kernel_rfl; exact rfl) | (apply kI_nl))
      | ((with_reducible show eOk _ _ _ _ _ _); first | (exact eok_nil) | (apply ke_rd; exact rfl) | (apply ke_rg; exact rfl; exact rfl) | (apply ke_cv; exact rfl; kernel_rfl) | (apply ke_al; exact rfl; exact rfl))
      | ((with_reducible apply freshIs_new); kernel_rfl)
      | (simp only [B, xB, F, Nat.reduceLT, Nat.reduceLeDiff, Nat.reduceEqDiff, Nat.reduceAdd, Nat.reduceMul, Nat.reduceSub, ↓reduceIte, eq_self]))
    have o30c := o30b.new 35 [.int .u64 (.ofNat 1000), .int .u64 (.ofNat 0)]
    refine ((revsC (g30b.newCells 35 [.int .u64 (.ofNat 1000), .int .u64 (.ofNat 0)]) w30 _ [(1000, 0)] [(1000, 0)] (gr30.slice.only o30c (fun _ _ => by simp)) (one_slice _ _ _) (by simp)).call P).mono P ?_
    rintro v h30 ⟨rfl, o30d⟩
    have p30 := ((p18.trans o30 (fun _ h => h) (fun _ h => by cases h)).trans o30c (fun _ h => h) (fun _ h => by cases h)).trans o30d (fun _ h => h) (fun _ h => by cases h)
    rw [show decide ([((1000, 0) : Rv)] = [(1000, 0)]) = true from decide_eq_true rfl]
    have x40a := p30.1
    have cc40 := kcell c9 p30 (by omega) (by simp)
    repeat' (first
      | ((with_reducible show codeW _ _ _ _ (codeI _ _) _ _ _ _); first | (apply st_seq; exact rfl) | (refine st_reg ?_ rfl rfl ?_; exact rfl; (conv => arg 4; whnf); (conv => arg 3; whnf)) | (refine st_dp ord4_0 ?_ rfl rfl ?_; exact rfl; (conv => arg 4; whnf); (conv => arg 3; whnf)) | (refine st_dp ord4_1 ?_ rfl rfl ?_; exact rfl; (conv => arg 4; whnf); (conv => arg 3; whnf)) | (refine st_dw ?_ rfl rfl ?_ ?_; exact rfl; kernel_rfl; (conv => arg 5; whnf); (conv => arg 3; whnf)) | (refine st_cond ?_ rfl ?_; exact rfl; (conv => arg 1; arg 2; whnf)) | (refine st_block ?_ rfl ?_; exact rfl; (conv => arg 9; arg 1; whnf)) | (apply st_skip; exact rfl) | (refine st_exit ?_ rfl ?_; exact rfl; (conv in exitId _ => whnf)) | (apply st_ret; exact rfl))
      | ((with_reducible refine retW_intro rfl ?_); (conv => arg 2; whnf))
      | ((with_reducible refine ifB_split (fun hb => ?_) (fun hb => ?_)) <;> (try rw [Bool.not_true] at hb) <;> (try rw [Bool.not_false] at hb) <;> (try simp only [hb]))
      | ((with_reducible refine gW_split (fun hb => ?_) (fun hb => ?_)) <;> (try rw [Bool.not_true] at hb) <;> (try rw [Bool.not_false] at hb) <;> (try simp only [hb]))
      | ((with_reducible refine gX_split (fun hb => ?_) (fun hb => ?_)) <;> (try rw [Bool.not_true] at hb) <;> (try rw [Bool.not_false] at hb) <;> (try simp only [hb]))
      | ((with_reducible show drawP _ _ _ _ _ _ _ _ _); first | (apply kP_rd; exact rfl; exact rfl) | (apply kP_rg; exact rfl; exact rfl; exact rfl) | (apply kP_cv; exact rfl; exact rfl; kernel_rfl) | (apply kP_al; exact rfl; exact rfl; exact rfl) | (apply kP_ex; exact rfl; exact rfl; kernel_rfl; exact rfl) | (apply kP_eg; exact rfl; exact rfl; kernel_rfl; exact rfl) | (apply kP_nl))
      | ((with_reducible show drawI _ _ _ _ _ _ _ _ _); first | (apply kI_rd; exact rfl) | (apply kI_rg; exact rfl; exact rfl) | (apply kI_cv; exact rfl; kernel_rfl) | (apply kI_al; exact rfl; exact rfl) | (apply kI_ex; exact rfl; kernel_rfl; exact rfl) | (apply kI_eg; exact rfl; kernel_rfl; exact rfl) | (apply kI_nl))
      | ((with_reducible show eOk _ _ _ _ _ _); first | (exact eok_nil) | (apply ke_rd; exact rfl) | (apply ke_rg; exact rfl; exact rfl) | (apply ke_cv; exact rfl; kernel_rfl) | (apply ke_al; exact rfl; exact rfl))
      | ((with_reducible apply freshIs_new); kernel_rfl)
      | (simp only [B, xB, F, Nat.reduceLT, Nat.reduceLeDiff, Nat.reduceEqDiff, Nat.reduceAdd, Nat.reduceMul, Nat.reduceSub, ↓reduceIte, eq_self, cc40]))
    refine ((sinceC h30 _ (putP L (1000, 1)) 1000 (hb9.keep p30) hzb).call P).mono P ?_
    rintro w40 g40 ⟨o40, gr40⟩
    rw [V1.2.2.1] at gr40
    repeat' (first
      | ((with_reducible show codeW _ _ _ _ (codeI _ _) _ _ _ _); first | (apply st_seq; exact rfl) | (refine st_reg ?_ rfl rfl ?_; exact rfl; (conv => arg 4; whnf); (conv => arg 3; whnf)) | (refine st_dp ord4_0 ?_ rfl rfl ?_; exact rfl; (conv => arg 4; whnf); (conv => arg 3; whnf)) | (refine st_dp ord4_1 ?_ rfl rfl ?_; exact rfl; (conv => arg 4; whnf); (conv => arg 3; whnf)) | (refine st_dw ?_ rfl rfl ?_ ?_; exact rfl; kernel_rfl; (conv => arg 5; whnf); (conv => arg 3; whnf)) | (refine st_cond ?_ rfl ?_; exact rfl; (conv => arg 1; arg 2; whnf)) | (refine st_block ?_ rfl ?_; exact rfl; (conv => arg 9; arg 1; whnf)) | (apply st_skip; exact rfl) | (refine st_exit ?_ rfl ?_; exact rfl; (conv in exitId _ => whnf)) | (apply st_ret; exact rfl))
      | ((with_reducible refine retW_intro rfl ?_); (conv => arg 2; whnf))
      | ((with_reducible refine ifB_split (fun hb => ?_) (fun hb => ?_)) <;> (try rw [Bool.not_true] at hb) <;> (try rw [Bool.not_false] at hb) <;> (try simp only [hb]))
      | ((with_reducible refine gW_split (fun hb => ?_) (fun hb => ?_)) <;> (try rw [Bool.not_true] at hb) <;> (try rw [Bool.not_false] at hb) <;> (try simp only [hb]))
      | ((with_reducible refine gX_split (fun hb => ?_) (fun hb => ?_)) <;> (try rw [Bool.not_true] at hb) <;> (try rw [Bool.not_false] at hb) <;> (try simp only [hb]))
      | ((with_reducible show drawP _ _ _ _ _ _ _ _ _); first | (apply kP_rd; exact rfl; exact rfl) | (apply kP_rg; exact rfl; exact rfl; exact rfl) | (apply kP_cv; exact rfl; exact rfl; kernel_rfl) | (apply kP_al; exact rfl; exact rfl; exact rfl) | (apply kP_ex; exact rfl; exact rfl; kernel_rfl; exact rfl) | (apply kP_eg; exact rfl; exact rfl; kernel_rfl; exact rfl) | (apply kP_nl))
      | ((with_reducible show drawI _ _ _ _ _ _ _ _ _); first | (apply kI_rd; exact rfl) | (apply kI_rg; exact rfl; exact rfl) | (apply kI_cv; exact rfl; kernel_rfl) | (apply kI_al; exact rfl; exact rfl) | (apply kI_ex; exact rfl; kernel_rfl; exact rfl) | (apply kI_eg; exact rfl; kernel_rfl; exact rfl) | (apply kI_nl))
      | ((with_reducible show eOk _ _ _ _ _ _); first | (exact eok_nil) | (apply ke_rd; exact rfl) | (apply ke_rg; exact rfl; exact rfl) | (apply ke_cv; exact rfl; kernel_rfl) | (apply ke_al; exact rfl; exact rfl))
      | ((with_reducible apply freshIs_new); kernel_rfl)
      | (simp only [B, xB, F, Nat.reduceLT, Nat.reduceLeDiff, Nat.reduceEqDiff, Nat.reduceAdd, Nat.reduceMul, Nat.reduceSub, ↓reduceIte, eq_self]))
    refine ((revC g40 1000 1).call P).mono P ?_
    rintro v g40b ⟨rfl, o40b⟩
    rw [show rvA (1000, 1) = .agg [.int .u64 (.ofNat 1000), .int .u64 (.ofNat 1)] from rfl]
    repeat' (first
      | ((with_reducible show codeW _ _ _ _ (codeI _ _) _ _ _ _); first | (apply st_seq; exact rfl) | (refine st_reg ?_ rfl rfl ?_; exact rfl; (conv => arg 4; whnf); (conv => arg 3; whnf)) | (refine st_dp ord4_0 ?_ rfl rfl ?_; exact rfl; (conv => arg 4; whnf); (conv => arg 3; whnf)) | (refine st_dp ord4_1 ?_ rfl rfl ?_; exact rfl; (conv => arg 4; whnf); (conv => arg 3; whnf)) | (refine st_dw ?_ rfl rfl ?_ ?_; exact rfl; kernel_rfl; (conv => arg 5; whnf); (conv => arg 3; whnf)) | (refine st_cond ?_ rfl ?_; exact rfl; (conv => arg 1; arg 2; whnf)) | (refine st_block ?_ rfl ?_; exact rfl; (conv => arg 9; arg 1; whnf)) | (apply st_skip; exact rfl) | (refine st_exit ?_ rfl ?_; exact rfl; (conv in exitId _ => whnf)) | (apply st_ret; exact rfl))
      | ((with_reducible refine retW_intro rfl ?_); (conv => arg 2; whnf))
      | ((with_reducible refine ifB_split (fun hb => ?_) (fun hb => ?_)) <;> (try rw [Bool.not_true] at hb) <;> (try rw [Bool.not_false] at hb) <;> (try simp only [hb]))
      | ((with_reducible refine gW_split (fun hb => ?_) (fun hb => ?_)) <;> (try rw [Bool.not_true] at hb) <;> (try rw [Bool.not_false] at hb) <;> (try simp only [hb]))
      | ((with_reducible refine gX_split (fun hb => ?_) (fun hb => ?_)) <;> (try rw [Bool.not_true] at hb) <;> (try rw [Bool.not_false] at hb) <;> (try simp only [hb]))
      | ((with_reducible show drawP _ _ _ _ _ _ _ _ _); first | (apply kP_rd; exact rfl; exact rfl) | (apply kP_rg; exact rfl; exact rfl; exact rfl) | (apply kP_cv; exact rfl; exact rfl; kernel_rfl) | (apply kP_al; exact rfl; exact rfl; exact rfl) | (apply kP_ex; exact rfl; exact rfl; kernel_rfl; exact rfl) | (apply kP_eg; exact rfl; exact rfl; kernel_rfl; exact rfl) | (apply kP_nl))
      | ((with_reducible show drawI _ _ _ _ _ _ _ _ _); first | (apply kI_rd; exact rfl) | (apply kI_rg; exact rfl; exact rfl) | (apply kI_cv; exact rfl; kernel_rfl) | (apply kI_al; exact rfl; exact rfl) | (apply kI_ex; exact rfl; kernel_rfl; exact rfl) | (apply kI_eg; exact rfl; kernel_rfl; exact rfl) | (apply kI_nl))
      | ((with_reducible show eOk _ _ _ _ _ _); first | (exact eok_nil) | (apply ke_rd; exact rfl) | (apply ke_rg; exact rfl; exact rfl) | (apply ke_cv; exact rfl; kernel_rfl) | (apply ke_al; exact rfl; exact rfl))
      | ((with_reducible apply freshIs_new); kernel_rfl)
      | (simp only [B, xB, F, Nat.reduceLT, Nat.reduceLeDiff, Nat.reduceEqDiff, Nat.reduceAdd, Nat.reduceMul, Nat.reduceSub, ↓reduceIte, eq_self]))
    have o40c := o40b.new 35 [.int .u64 (.ofNat 1000), .int .u64 (.ofNat 1)]
    refine ((revsC (g40b.newCells 35 [.int .u64 (.ofNat 1000), .int .u64 (.ofNat 1)]) w40 _ [(1000, 1)] [(1000, 1)] (gr40.slice.only o40c (fun _ _ => by simp)) (one_slice _ _ _) (by simp)).call P).mono P ?_
    rintro v h40 ⟨rfl, o40d⟩
    have p40 := ((p30.trans o40 (fun _ h => h) (fun _ h => by cases h)).trans o40c (fun _ h => h) (fun _ h => by cases h)).trans o40d (fun _ h => h) (fun _ h => by cases h)
    rw [show decide ([((1000, 1) : Rv)] = [(1000, 1)]) = true from decide_eq_true rfl]
    have x50a := p40.1
    have cc50 := kcell c7 p40 (by omega) (by simp)
    repeat' (first
      | ((with_reducible show codeW _ _ _ _ (codeI _ _) _ _ _ _); first | (apply st_seq; exact rfl) | (refine st_reg ?_ rfl rfl ?_; exact rfl; (conv => arg 4; whnf); (conv => arg 3; whnf)) | (refine st_dp ord4_0 ?_ rfl rfl ?_; exact rfl; (conv => arg 4; whnf); (conv => arg 3; whnf)) | (refine st_dp ord4_1 ?_ rfl rfl ?_; exact rfl; (conv => arg 4; whnf); (conv => arg 3; whnf)) | (refine st_dw ?_ rfl rfl ?_ ?_; exact rfl; kernel_rfl; (conv => arg 5; whnf); (conv => arg 3; whnf)) | (refine st_cond ?_ rfl ?_; exact rfl; (conv => arg 1; arg 2; whnf)) | (refine st_block ?_ rfl ?_; exact rfl; (conv => arg 9; arg 1; whnf)) | (apply st_skip; exact rfl) | (refine st_exit ?_ rfl ?_; exact rfl; (conv in exitId _ => whnf)) | (apply st_ret; exact rfl))
      | ((with_reducible refine retW_intro rfl ?_); (conv => arg 2; whnf))
      | ((with_reducible refine ifB_split (fun hb => ?_) (fun hb => ?_)) <;> (try rw [Bool.not_true] at hb) <;> (try rw [Bool.not_false] at hb) <;> (try simp only [hb]))
      | ((with_reducible refine gW_split (fun hb => ?_) (fun hb => ?_)) <;> (try rw [Bool.not_true] at hb) <;> (try rw [Bool.not_false] at hb) <;> (try simp only [hb]))
      | ((with_reducible refine gX_split (fun hb => ?_) (fun hb => ?_)) <;> (try rw [Bool.not_true] at hb) <;> (try rw [Bool.not_false] at hb) <;> (try simp only [hb]))
      | ((with_reducible show drawP _ _ _ _ _ _ _ _ _); first | (apply kP_rd; exact rfl; exact rfl) | (apply kP_rg; exact rfl; exact rfl; exact rfl) | (apply kP_cv; exact rfl; exact rfl; kernel_rfl) | (apply kP_al; exact rfl; exact rfl; exact rfl) | (apply kP_ex; exact rfl; exact rfl; kernel_rfl; exact rfl) | (apply kP_eg; exact rfl; exact rfl; kernel_rfl; exact rfl) | (apply kP_nl))
      | ((with_reducible show drawI _ _ _ _ _ _ _ _ _); first | (apply kI_rd; exact rfl) | (apply kI_rg; exact rfl; exact rfl) | (apply kI_cv; exact rfl; kernel_rfl) | (apply kI_al; exact rfl; exact rfl) | (apply kI_ex; exact rfl; kernel_rfl; exact rfl) | (apply kI_eg; exact rfl; kernel_rfl; exact rfl) | (apply kI_nl))
      | ((with_reducible show eOk _ _ _ _ _ _); first | (exact eok_nil) | (apply ke_rd; exact rfl) | (apply ke_rg; exact rfl; exact rfl) | (apply ke_cv; exact rfl; kernel_rfl) | (apply ke_al; exact rfl; exact rfl))
      | ((with_reducible apply freshIs_new); kernel_rfl)
      | (simp only [B, xB, F, Nat.reduceLT, Nat.reduceLeDiff, Nat.reduceEqDiff, Nat.reduceAdd, Nat.reduceMul, Nat.reduceSub, ↓reduceIte, eq_self, cc50]))
    refine ((sinceC h40 _ (putP L (1000, 0)) 0 (ha7.keep p40) hza).call P).mono P ?_
    rintro w50 h50 ⟨o50, gr50⟩
    have hl50 := gr50.len (P := P) u29
    have hl6 := hs6.len (P := P) u29
    have e50 : wrapF .i64 (Int.ofNat (sinceL 0 (all L)).length + Int.ofNat 1) = Int.ofNat ((sinceL 0 (all L)).length + 1) := i64_add (by omega)
    have e51 : decide ((sinceL 0 (all (putP L (1000, 0)))).length = (sinceL 0 (all L)).length + 1) = true := decide_eq_true V0.2.2.2
    repeat' (first
      | ((with_reducible show codeW _ _ _ _ (codeI _ _) _ _ _ _); first | (apply st_seq; exact rfl) | (refine st_reg ?_ rfl rfl ?_; exact rfl; (conv => arg 4; whnf); (conv => arg 3; whnf)) | (refine st_dp ord4_0 ?_ rfl rfl ?_; exact rfl; (conv => arg 4; whnf); (conv => arg 3; whnf)) | (refine st_dp ord4_1 ?_ rfl rfl ?_; exact rfl; (conv => arg 4; whnf); (conv => arg 3; whnf)) | (refine st_dw ?_ rfl rfl ?_ ?_; exact rfl; kernel_rfl; (conv => arg 5; whnf); (conv => arg 3; whnf)) | (refine st_cond ?_ rfl ?_; exact rfl; (conv => arg 1; arg 2; whnf)) | (refine st_block ?_ rfl ?_; exact rfl; (conv => arg 9; arg 1; whnf)) | (apply st_skip; exact rfl) | (refine st_exit ?_ rfl ?_; exact rfl; (conv in exitId _ => whnf)) | (apply st_ret; exact rfl))
      | ((with_reducible refine retW_intro rfl ?_); (conv => arg 2; whnf))
      | ((with_reducible refine ifB_split (fun hb => ?_) (fun hb => ?_)) <;> (try rw [Bool.not_true] at hb) <;> (try rw [Bool.not_false] at hb) <;> (try simp only [hb]))
      | ((with_reducible refine gW_split (fun hb => ?_) (fun hb => ?_)) <;> (try rw [Bool.not_true] at hb) <;> (try rw [Bool.not_false] at hb) <;> (try simp only [hb]))
      | ((with_reducible refine gX_split (fun hb => ?_) (fun hb => ?_)) <;> (try rw [Bool.not_true] at hb) <;> (try rw [Bool.not_false] at hb) <;> (try simp only [hb]))
      | ((with_reducible show drawP _ _ _ _ _ _ _ _ _); first | (apply kP_rd; exact rfl; exact rfl) | (apply kP_rg; exact rfl; exact rfl; exact rfl) | (apply kP_cv; exact rfl; exact rfl; kernel_rfl) | (apply kP_al; exact rfl; exact rfl; exact rfl) | (apply kP_ex; exact rfl; exact rfl; kernel_rfl; exact rfl) | (apply kP_eg; exact rfl; exact rfl; kernel_rfl; exact rfl) | (apply kP_nl))
      | ((with_reducible show drawI _ _ _ _ _ _ _ _ _); first | (apply kI_rd; exact rfl) | (apply kI_rg; exact rfl; exact rfl) | (apply kI_cv; exact rfl; kernel_rfl) | (apply kI_al; exact rfl; exact rfl) | (apply kI_ex; exact rfl; kernel_rfl; exact rfl) | (apply kI_eg; exact rfl; kernel_rfl; exact rfl) | (apply kI_nl))
      | ((with_reducible show eOk _ _ _ _ _ _); first | (exact eok_nil) | (apply ke_rd; exact rfl) | (apply ke_rg; exact rfl; exact rfl) | (apply ke_cv; exact rfl; kernel_rfl) | (apply ke_al; exact rfl; exact rfl))
      | ((with_reducible apply freshIs_new); kernel_rfl)
      | (simp only [B, xB, F, Nat.reduceLT, Nat.reduceLeDiff, Nat.reduceEqDiff, Nat.reduceAdd, Nat.reduceMul, Nat.reduceSub, ↓reduceIte, eq_self, hl50, hl6, e50, e51]))
    rfl
end
end Go.Proofs.Ytlkngpckibidlaa.W

namespace Go.Proofs.Ytlkngpckibidlaa.W
open Go Go.AX
noncomputable section
set_option maxRecDepth 100000
theorem u41 : P.underlying 41 = some (.struct (fieldsOf P 41)) := by kernel_rfl
theorem u35 : P.underlying 35 = some (.struct (fieldsOf P 35)) := by kernel_rfl
structure DoN where
  wh : Nat
  a : Nat
  b : Nat
  c : Nat
  d : Nat
def DoN.cs (x : DoN) : List (IntKind × Nat) := [(.u8, x.wh), (.u64, x.a), (.u64, x.b), (.u64, x.c), (.u64, x.d)]
def DoN.ok (x : DoN) : Prop := x.wh < 256 ∧ x.a < 18446744073709551616 ∧ x.b < 18446744073709551616 ∧ x.c < 18446744073709551616 ∧ x.d < 18446744073709551616
theorem rev_dec {K : Type} {enc : TypeId × Value → K} {w : World} {b : Nat} {sp : Nat → Bool} {hd : Bool} (n : Nat) (cs : List Value) (x : DataW K × List MemPlace) (h : DataW.trod enc P w b sp hd n 35 cs = some x) :
    ∃ m s : Nat, m < 18446744073709551616 ∧ s < 18446744073709551616 ∧ cs = [.int .u64 (.ofNat m), .int .u64 (.ofNat s)] := by
  obtain ⟨hl, n0, y0, h0⟩ := trod_field (i := 0) (ty := 28) (off := 0) u35 (by kernel_rfl) h
  obtain ⟨_, n1, y1, h1⟩ := trod_field (i := 1) (ty := 28) (off := 1) u35 (by kernel_rfl) h
  rw [show P.cellsOf 28 = 1 by kernel_rfl] at h0 h1
  rw [show P.cellsOf 35 = 2 by kernel_rfl] at hl
  obtain ⟨m, e0, hm⟩ := trod_nat (k := .u64) rfl u28 h0
  obtain ⟨s, e1, hs⟩ := trod_nat (k := .u64) rfl u28 h1
  match cs, hl with
  | [c0, c1], _ =>
    simp at e0 e1
    exact ⟨m, s, hm, hs, by rw [e0, e1]; rfl⟩
theorem do_dec {K : Type} {enc : TypeId × Value → K} {w : World} {b : Nat} {sp : Nat → Bool} {hd : Bool} (n : Nat) (cs : List Value) (x : DataW K × List MemPlace) (h : DataW.trod enc P w b sp hd n 41 cs = some x) : ∃ a : DoN, a.ok ∧ cs = a.cs.map natV := by
  obtain ⟨hl, n0, y0, h0⟩ := trod_field (i := 0) (ty := 5) (off := 0) u41 (by kernel_rfl) h
  obtain ⟨_, n1, y1, h1⟩ := trod_field (i := 1) (ty := 35) (off := 1) u41 (by kernel_rfl) h
  obtain ⟨_, n2, y2, h2⟩ := trod_field (i := 2) (ty := 28) (off := 3) u41 (by kernel_rfl) h
  obtain ⟨_, n3, y3, h3⟩ := trod_field (i := 3) (ty := 28) (off := 4) u41 (by kernel_rfl) h
  rw [show P.cellsOf 5 = 1 by kernel_rfl] at h0
  rw [show P.cellsOf 35 = 2 by kernel_rfl] at h1
  rw [show P.cellsOf 28 = 1 by kernel_rfl] at h2 h3
  rw [show P.cellsOf 41 = 5 by kernel_rfl] at hl
  obtain ⟨wh, e0, q0⟩ := trod_nat (k := .u8) rfl u5 h0
  obtain ⟨m, s, q1, q2, e1⟩ := rev_dec _ _ _ h1
  obtain ⟨c, e2, q3⟩ := trod_nat (k := .u64) rfl u28 h2
  obtain ⟨d, e3, q4⟩ := trod_nat (k := .u64) rfl u28 h3
  match cs, hl with
  | [c0, c1, c2, c3, c4], _ =>
    simp at e0 e1 e2 e3
    exact ⟨⟨wh, m, s, c, d⟩, ⟨q0, q1, q2, q3, q4⟩, by rw [e0, e1.1, e1.2, e2, e3]; rfl⟩
theorem do_arg {K : Type} {enc : TypeId × Value → K} {w : World} {b : Nat} {sp : Nat → Bool} {hd : Bool} {r : Go.Reach} {b0 : Nat} {v : Value} (hval : Value.okWide P w r b0 41 v) {d : DataW K} {ps : List MemPlace} (h : DataW.Trod enc P w b sp hd 41 v d ps) :
    ∃ a : DoN, a.ok ∧ v = .agg (a.cs.map natV).toArray := by
  obtain ⟨cs, rfl, _⟩ := WideShapes.okWide_struct u41 hval
  obtain ⟨fuel, hf⟩ := h
  obtain ⟨a, ha, e⟩ := do_dec _ _ _ hf
  refine ⟨a, ha, ?_⟩
  have : cs.toList = a.cs.map natV := by simpa [Value.cells] using e
  rw [← this]
end
end Go.Proofs.Ytlkngpckibidlaa.W
namespace Go.Proofs.Ytlkngpckibidlaa.gensValue
open Go.ChangeShapes Go.WideShapes Go.ChangeAt Go.RowKit
theorem own : ownKnob Try.prog.godebug = none := by kernel_rfl
theorem laidOut : laidOutB Try.prog = true := by kernel_rfl
theorem readable : ∀ t, t ∈ [22, 41] → Try.prog.readableRec t = true ∧ t < Try.prog.types.size := by
  intro t ht
  simp only [List.mem_cons, List.mem_nil_iff, or_false] at ht
  rcases ht with rfl | rfl <;> exact ⟨by kernel_rfl, of_decide_eq_true (by kernel_rfl)⟩
set_option maxRecDepth 100000 in
theorem walk (M : World) (vl : AX.AV) (l : List Nat) (cv : Value) (x : W.DoN) (hv : AX.VR (AX.absPhi M.heap.size) vl cv) (sl : AX.SliceAt (AX.absH M) vl l.length (W.u8s l)) (hl : ∀ n, n ∈ l → n < 256) :
    Calls Try.prog 4 #[cv, .agg (x.cs.map AX.natV).toArray] M fun e w' => e = .returned (.bool true) ∧ Below M.heap.size M w' := by
  have hw := W.valueW (AX.absH M) vl l x.wh x.a x.b x.c x.d sl hl
  refine (AX.calls_of_codeW (fn := Try.f4) (c := AX.bodyC Try.f4) Try.func4 rfl hw (AX.absH_rel M) (Nat.le_refl _) (cargs := #[cv, .agg (x.cs.map AX.natV).toArray]) ⟨hv, AX.agg_nats x.cs, trivial⟩).mono ?_
  rintro e1 w' ⟨N', φ', cv', v, h', _, rfl, hq, _, hv', _, hb⟩
  have hq : v = .bool true := hq
  subst hq
  rw [AX.VR_bool] at hv'; subst hv'
  exact ⟨rfl, hb⟩
set_option maxRecDepth 100000 in
theorem lifted (os : Os) (started : os.Started) (H : Type) (enc : TypeId × Value → H) :
    ReturnsInHanded {} Try.checked os 4 .any (Rows.gensValueSpec.pre6 enc Try.prog Try.f4 Rows.gensValueRow.domain false) (Rows.gensValueSpec.post enc Try.prog Try.f4 false true false false) := by
  refine returnsInHanded_of_change (C := Try.checked) own started (by kernel_rfl) Try.func4
    (ChangeSpec.witness6 (enc := enc) (C := Try.checked) false ⟨#[], #[.slice none 0 0, .agg #[.int .u8 0, .int .u64 0, .int .u64 0, .int .u64 0, .int .u64 0]], []⟩ 8 (by kernel_rfl) (by kernel_rfl) (by kernel_rfl) (by kernel_rfl)) ?_
  intro M base args ds gs before hval0 hW hcnd _
  have hW' := hW
  have hlt := hW.lt
  obtain ⟨p, q, hA0, hV, rfl, hfz, hnd⟩ := hW
  have hA : DataW.TrodAll enc Try.prog M 0 (fun _ => true) true Try.f4.params.toList args.toList ds p := hA0
  rw [Try.params4] at hA hval0
  have hA1 := hA
  obtain ⟨v0, vs0, d0, ds0, p0, q0, hargs, rfl, rfl, g0, r0⟩ := trodAll_cons hA
  obtain ⟨v1, vs1, d1, ds1, p1, q1, rfl, rfl, rfl, g1, r1⟩ := trodAll_cons r0
  obtain ⟨rfl, rfl, rfl⟩ := trodAll_nil r1
  obtain rfl : args = #[v0, v1] := by cases args; simp_all
  obtain ⟨rfl, rfl⟩ := trodVars_none hV
  obtain ⟨vl, l, hv, sl, hl, _⟩ := AX.nats_arg (k := .u8) rfl W.u22 W.u5 (by kernel_rfl) (hval0 0 22 v0 rfl rfl) g0
  obtain ⟨x, _, rfl⟩ := W.do_arg (hval0 1 41 v1 rfl rfl) g1
  simp only [List.append_nil] at hW' hlt
  refine (walk M vl l v0 x hv sl hl).mono fun e1 M' ⟨he, hb⟩ => ?_
  subst he
  exact ⟨_, rfl, _, [], _, [], _, [], hW', trodAll_cons_mk (shut_bool Try.underlying4 _) trodAll_mk0, AX.trodAll_below laidOut hb readable hA1 (fun p hp => hlt p (by simpa using hp)) _ (fun p hp => decide_eq_true (hlt p (by simpa using hp))), rfl, hb.frame _, fun h => by cases h⟩
theorem over : Rows.gensValueRow.holds Try.pinned (OpenSpec.ofChange Rows.gensValueSpec) :=
  OpenClaim.holds_of_wide 4 Try.f4 rfl rfl rfl rfl rfl rfl rfl ⟨rfl, rfl, rfl, rfl, rfl⟩ rfl rfl rfl rfl rfl (by kernel_rfl) Try.func4 (by kernel_rfl)
    (of_decide_eq_true (by kernel_rfl)) (by unfold Func.isWrapper; first | (rw [if_pos (by decide +kernel)]; kernel_rfl) | (rw [if_neg (by decide +kernel)]; exact ⟨rfl, rfl⟩))
    (fun os started H enc _ => lifted os started H enc)
theorem proved : Rows.GensValueSaid := over
#print axioms proved
end Go.Proofs.Ytlkngpckibidlaa.gensValue


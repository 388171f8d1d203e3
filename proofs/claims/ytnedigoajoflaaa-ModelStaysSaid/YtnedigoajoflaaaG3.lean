/-
  'ModelStays' returns true, whatever the input; each argument reads as it did. No condition.
-/
import Derived.Test.YtnedigoajoflaaaAxI
import Derived.Test.YtnedigoajoflaaaG2
import Derived.Test.YtnedigoajoflaaaAxF
import Derived.Test.YtnedigoajoflaaaRows
import Derived.OpenShut
set_option linter.unusedSimpArgs false
set_option linter.unusedVariables false
set_option linter.unusedSectionVars false
open Nat (reduceLT reduceLeDiff reduceEqDiff reduceAdd reduceMul reduceSub)
namespace Go.Proofs.Ytnedigoajoflaaa.M
open Go Go.AX
noncomputable section
set_option maxRecDepth 100000
structure Sm where
 what : Nat
 a : Nat
 b : Nat
 n : Nat
def Sm.cs (x : Sm) : List AV := [.int .u8 (.ofNat x.what), .int .u8 (.ofNat x.a), .int .u8 (.ofNat x.b), .int .u8 (.ofNat x.n)]
def oneS (x : Sm) : Op := ⟨.ofNat 1, keyS x.a, [], [x.n], 0, .ofNat 0, false, false, true⟩
def twoS (x : Sm) : Op := ⟨.ofNat 2, keyS x.b, [], [], 0, .ofNat 0, false, false, true⟩
def readS (x : Sm) : Op := ⟨.ofNat 0, bytesOf ⟨#[97]⟩, bytesOf ⟨#[0]⟩, [], x.n % 12, .ofNat (x.a % 3), false, false, false⟩
def delS (x : Sm) : Op := ⟨.ofNat 2, keyS x.a, keyS x.b, [], 0, .ofNat 0, false, false, false⟩
def cmpS (x : Sm) : Cmp := ⟨keyS x.b, .ofNat 0, .ofNat 3, x.n % 3, []⟩
def thenS (l : List Op) : Rq := ⟨.ofNat 0, 0, 0, false, [], l, [], 0⟩
def reqS (x : Sm) : Rq :=
 if x.what % 10 ≤ 2 then thenS [oneS x]
 else if x.what % 10 = 3 then thenS [twoS x]
 else if x.what % 10 = 4 then thenS [oneS x, readS x, twoS x]
 else if x.what % 10 = 5 then thenS [readS x, delS x]
 else if x.what % 10 = 6 then thenS [oneS x, oneS x]
 else if x.what % 10 = 7 then ⟨.ofNat 0, 0, 0, false, [cmpS x], [oneS x], [twoS x, readS x], 0⟩
 else ⟨.ofNat 1, 0, 0, false, [], [], [], x.n⟩
theorem i64_id {a : Nat} (hs : a < 9223372036854775808) : wrapF .i64 (Int.ofNat a) = Int.ofNat a := i64_add (a := a) (b := 0) hs
def ReqP (h0 : H) (x : Sm) (v : AV) (h' : H) : Prop := ∃ vc vt ve, v = .agg ((reqS x).cs vc vt ve) ∧ Og h0 h' [] ∧ RqAt h' (reqS x) vc vt ve
set_option maxHeartbeats 4000000 in
theorem reqC (h0 : H) (x : Sm) (hn : x.n < 256) : PushC P (.enter 14 [.agg x.cs] h0) (ReqP h0 x) := by
 obtain ⟨h1, h1e⟩ : ∃ h1, h1 = h0.newCells 51 x.cs := ⟨_, rfl⟩
 have o1 : Og h0 h1 []:= by rw [h1e]; exact (Og.refl _ _).new _ _
 have x1 : h1.nx = h0.nx + 1:= by rw [h1e]; rfl
 have bx : boxR h0 51 x.cs = .val (.ptr h0.nx 0) h1:= by rw [h1e]; exact boxR_ok rfl
 have X1 : CellsAt h1 h0.nx 0 x.cs:= by rw [h1e]; exact CellsAt.new h0 51 x.cs
 obtain ⟨h2, h2e⟩ : ∃ h2, h2 = h1.newCells 31 [.int .i64 (.ofNat 0), .int .u64 (.ofNat 0), .int .u64 (.ofNat 0), .bool false, .nilslice, .nilslice, .nilslice, .int .u64 (.ofNat 0)] := ⟨_, rfl⟩
 have o2 : Og h1 h2 []:= by rw [h2e]; exact (Og.refl _ _).new _ _
 have x2 : h2.nx = h1.nx + 1:= by rw [h2e]; rfl
 have R2 : CellsAt h2 h1.nx 0 [.int .i64 (.ofNat 0), .int .u64 (.ofNat 0), .int .u64 (.ofNat 0), .bool false, .nilslice, .nilslice, .nilslice, .int .u64 (.ofNat 0)]:= by rw [h2e]; exact CellsAt.new _ _ _
 have wr2 : wrAt h2 h1.nx = true:= by rw [h2e]; exact wr_new _ _ _
 have X2 := gC X1 o2 (by omega) (by simp [Sm.cs])
 obtain ⟨p0, p1, p2, p3⟩ := CellsAt.u4 (show CellsAt h2 h0.nx 0 [.int .u8 (.ofNat x.what), .int .u8 (.ofNat x.a), .int .u8 (.ofNat x.b), .int .u8 (.ofNat x.n)] from X2)
 obtain ⟨h3, h3e⟩ : ∃ h3, h3 = h2.newCells 80 [.int .i64 (.ofNat 0), .str [], .str [], .str [], .int .u64 (.ofNat 0), .int .i64 (.ofNat 0), .bool false, .bool false, .bool false] := ⟨_, rfl⟩
 have o3 : Og h2 h3 []:= by rw [h3e]; exact (Og.refl _ _).new _ _
 have x3 : h3.nx = h2.nx + 1:= by rw [h3e]; rfl
 have Z3 : CellsAt h3 h2.nx 0 [.int .i64 (.ofNat 0), .str [], .str [], .str [], .int .u64 (.ofNat 0), .int .i64 (.ofNat 0), .bool false, .bool false, .bool false]:= by rw [h3e]; exact CellsAt.new _ _ _
 have wr3 : wrAt h3 h2.nx = true:= by rw [h3e]; exact wr_new _ _ _
 obtain ⟨h4, h4e⟩ : ∃ h4, h4 = h3.newCells 5 [.int .u8 (.ofNat x.n)] := ⟨_, rfl⟩
 have o4 : Og h3 h4 []:= by rw [h4e]; exact (Og.refl _ _).new _ _
 have x4 : h4.nx = h3.nx + 1:= by rw [h4e]; rfl
 have c4 : cellAt h4 h3.nx 0 = some (.int .u8 (.ofNat x.n)):= by rw [h4e, cellAt_new, if_pos rfl]; rfl
 have cn : ∀ cap, convR P 89 9 (.slice h3.nx 0 1 cap) h4 = .val (.str [x.n]) h4 := fun cap => cv89 hn c4
 have fr3 : freshIs 80 [.int .i64 (.ofNat 0), .str [], .str [], .str [], .int .u64 (.ofNat 0), .int .i64 (.ofNat 0), .bool false, .bool false, .bool false] (h3.t.get h2.nx) = true:= by rw [h3e]; exact freshIs_new (by kernel_rfl)
 have fr4 : freshIs 80 [.int .i64 (.ofNat 0), .str [], .str [], .str [], .int .u64 (.ofNat 0), .int .i64 (.ofNat 0), .bool false, .bool false, .bool false] (h4.t.get h2.nx) = true:= by rw [o4.1.2 h2.nx (by omega) (by simp)]; exact fr3
 have fs4 : freshIs 5 [.int .u8 (.ofNat x.n)] (h4.t.get h3.nx) = true:= by rw [h4e]; exact freshIs_new (T.same_refl _)
 have wr4 := kw wr3 o4 (by omega) (by simp)
 obtain ⟨r0, r1, r2, r3⟩ := CellsAt.u4 (show CellsAt h4 h0.nx 0 [.int .u8 (.ofNat x.what), .int .u8 (.ofNat x.a), .int .u8 (.ofNat x.b), .int .u8 (.ofNat x.n)] from gC X2 (o3.t o4) (by omega) (by simp))
 have n1 : (h0.nx = h2.nx) = False:= by simp; omega
 have n2 : (h0.nx = h3.nx) = False:= by simp; omega
 unfold Sm.cs at bx h1e
 unfold Sm.cs
 refine pushC_of_codeW (fn := Try.f14) (c := bodyC Try.f14) Try.func14 rfl ?_
 show codeW P 14 88 none _ _ _ _ _
 refine codeW_root ?_
 repeat' (first | ((with_reducible refine st1 ?_); (conv => whnf); (with_reducible refine ⟨?_⟩)) | ((with_reducible refine st_dp ord14_0 ?_ rfl rfl ?_); exact rfl; (conv => arg 4; whnf); (conv => arg 3; whnf)) | ((with_reducible refine st_dp ord14_1 ?_ rfl rfl ?_); exact rfl; (conv => arg 4; whnf); (conv => arg 3; whnf)) | ((with_reducible refine st_dp ord14_2 ?_ rfl rfl ?_); exact rfl; (conv => arg 4; whnf); (conv => arg 3; whnf)) | ((with_reducible refine retW_intro rfl ?_); (conv => arg 2; whnf)) | ((with_reducible first | refine iB ?_ ?_ | refine gWt ?_ ?_ | refine gWf ?_ ?_ | refine gXt ?_ ?_ | refine gXf ?_ ?_) <;> intro hb <;> (try simp only [hb])) | ((with_reducible show drawP _ _ _ _ _ _ _ _ _); first | ((with_reducible apply kP_rd); exact rfl; exact rfl) | ((with_reducible apply kP_rg); exact rfl; exact rfl; exact rfl) | ((with_reducible apply kP_cv); exact rfl; exact rfl; kernel_rfl) | ((with_reducible apply kP_al); exact rfl; exact rfl; exact rfl) | ((with_reducible apply kP_fl); exact rfl; exact rfl; exact rfl) | ((with_reducible apply kP_ex); exact rfl; exact rfl; kernel_rfl; exact rfl) | ((with_reducible apply kP_eg); exact rfl; exact rfl; kernel_rfl; exact rfl) | ((with_reducible refine kP_nl ?_ ?_))) | ((with_reducible show eOk _ _ _ _ _ _); first | (exact eok_nil) | (refine ke_rd ?_ ?_ ?_; exact rfl) | (apply ke_rg; exact rfl; exact rfl) | (refine ke_cv ?_ ?_ ?_ ?_; exact rfl; kernel_rfl) | (apply ke_fl; exact rfl) | (apply ke_al; exact rfl; exact rfl)) | ((with_reducible refine freshIs_new ?_); kernel_rfl) | (simp only [B, xB, F, reduceLT, reduceLeDiff, reduceEqDiff, reduceAdd, reduceMul, reduceSub, ↓reduceIte, eq_self, ← h1e, ← h2e, p0, p1, p2, p3, ← h3e, ← h4e, cn, n1, n2, r0, r1, r2, r3, fr3, fr4, fs4]))
 refine ((keyC h4 x.a).call P).mono P ?_
 rintro _ h5 ⟨rfl, o5⟩
 have x5 := o5.1.1
 have fr5 : freshIs 80 [.int .i64 (.ofNat 0), .str [], .str [], .str [], .int .u64 (.ofNat 0), .int .i64 (.ofNat 0), .bool false, .bool false, .bool false] (h5.t.get h2.nx) = true:= by rw [o5.1.2 h2.nx (by omega) (by simp)]; exact fr4
 have fs5 : freshIs 5 [.int .u8 (.ofNat x.n)] (h5.t.get h3.nx) = true:= by rw [o5.1.2 h3.nx (by omega) (by simp)]; exact fs4
 have c5 := kc c4 o5 (by omega) (by simp)
 have cn5 : ∀ cap, convR P 89 9 (.slice h3.nx 0 1 cap) h5 = .val (.str [x.n]) h5 := fun cap => cv89 hn c5
 obtain ⟨r0, r1, r2, r3⟩ := CellsAt.u4 (show CellsAt h5 h0.nx 0 [.int .u8 (.ofNat x.what), .int .u8 (.ofNat x.a), .int .u8 (.ofNat x.b), .int .u8 (.ofNat x.n)] from gC X2 (o3.t (o4.t o5)) (by omega) (by simp))
 have wr5 := kw wr4 o5 (by omega) (by simp)
 obtain ⟨h6, h6e⟩ : ∃ h6, h6 = h5.sts h2.nx 0 (oneS x).cs := ⟨_, rfl⟩
 have o6 : Og h2 h6 []:= by rw [h6e]; exact (o3.t (o4.t o5)).sts (.inr (Nat.le_refl _))
 have x6 : h6.nx = h5.nx:= by rw [h6e, nx_sts]
 have A6 : CellsAt h6 h2.nx 0 (oneS x).cs:= by rw [h6e]; exact CellsAt.sts (o := 0) wr5 _
 have h6e' := h6e
 unfold oneS Op.cs at h6e
 obtain ⟨z0, z1, z2, z3, z4, z5, z6, z7, z8⟩ := (gC Z3 (o4.t o5) (by omega) (by simp)).u9
 repeat' (first | ((with_reducible refine st1 ?_); (conv => whnf); (with_reducible refine ⟨?_⟩)) | ((with_reducible refine st_dp ord14_0 ?_ rfl rfl ?_); exact rfl; (conv => arg 4; whnf); (conv => arg 3; whnf)) | ((with_reducible refine st_dp ord14_1 ?_ rfl rfl ?_); exact rfl; (conv => arg 4; whnf); (conv => arg 3; whnf)) | ((with_reducible refine st_dp ord14_2 ?_ rfl rfl ?_); exact rfl; (conv => arg 4; whnf); (conv => arg 3; whnf)) | ((with_reducible refine retW_intro rfl ?_); (conv => arg 2; whnf)) | ((with_reducible first | refine iB ?_ ?_ | refine gWt ?_ ?_ | refine gWf ?_ ?_ | refine gXt ?_ ?_ | refine gXf ?_ ?_) <;> intro hb <;> (try simp only [hb])) | ((with_reducible show drawP _ _ _ _ _ _ _ _ _); first | ((with_reducible apply kP_rd); exact rfl; exact rfl) | ((with_reducible apply kP_rg); exact rfl; exact rfl; exact rfl) | ((with_reducible apply kP_cv); exact rfl; exact rfl; kernel_rfl) | ((with_reducible apply kP_al); exact rfl; exact rfl; exact rfl) | ((with_reducible apply kP_fl); exact rfl; exact rfl; exact rfl) | ((with_reducible apply kP_ex); exact rfl; exact rfl; kernel_rfl; exact rfl) | ((with_reducible apply kP_eg); exact rfl; exact rfl; kernel_rfl; exact rfl) | ((with_reducible refine kP_nl ?_ ?_))) | ((with_reducible show eOk _ _ _ _ _ _); first | (exact eok_nil) | (refine ke_rd ?_ ?_ ?_; exact rfl) | (apply ke_rg; exact rfl; exact rfl) | (refine ke_cv ?_ ?_ ?_ ?_; exact rfl; kernel_rfl) | (apply ke_fl; exact rfl) | (apply ke_al; exact rfl; exact rfl)) | ((with_reducible refine freshIs_new ?_); kernel_rfl) | (simp only [B, xB, F, reduceLT, reduceLeDiff, reduceEqDiff, reduceAdd, reduceMul, reduceSub, ↓reduceIte, eq_self, cn5, r0, r1, r2, r3, fr5, fs5, wr5, ← h6e, z0, z1, z2, z3, z4, z5, z6, z7, z8]))
 have X6 := gC X2 (o6) (by omega) (by simp)
 obtain ⟨r0, r1, r2, r3⟩ := CellsAt.u4 (show CellsAt h6 h0.nx 0 [.int .u8 (.ofNat x.what), .int .u8 (.ofNat x.a), .int .u8 (.ofNat x.b), .int .u8 (.ofNat x.n)] from X6)
 repeat' (first | ((with_reducible refine st1 ?_); (conv => whnf); (with_reducible refine ⟨?_⟩)) | ((with_reducible refine retW_intro rfl ?_); (conv => arg 2; whnf)) | ((with_reducible first | refine iB ?_ ?_ | refine gWt ?_ ?_ | refine gWf ?_ ?_) <;> intro hb <;> (try simp only [hb])) | (simp only [B, xB, F, reduceLT, reduceLeDiff, reduceEqDiff, reduceAdd, reduceMul, reduceSub, ↓reduceIte, eq_self, r0, r1, r2, r3]))
 refine ((keyC h6 x.b).call P).mono P ?_
 rintro _ h7 ⟨rfl, o7⟩
 have x7 := o7.1.1
 obtain ⟨h8, h8e, o8, x8, a0, a1, a2, a3, a4, a5, a6, a7, a8⟩ := opBox h7 (twoS x)
 have B8 : CellsAt h8 h7.nx 0 (twoS x).cs := CellsAt.m9 a0 a1 a2 a3 a4 a5 a6 a7 a8
 unfold twoS at h8e
 simp only at h8e
 have X8 := gC X6 (o7.t o8) (by omega) (by simp)
 obtain ⟨r0, r1, r2, r3⟩ := CellsAt.u4 (show CellsAt h8 h0.nx 0 [.int .u8 (.ofNat x.what), .int .u8 (.ofNat x.a), .int .u8 (.ofNat x.b), .int .u8 (.ofNat x.n)] from X8)
 obtain ⟨h9, h9e, o9, x9, e0, e1, e2, e3, e4, e5, e6, e7, e8⟩ := opBox h8 (readS x)
 have C9 : CellsAt h9 h8.nx 0 (readS x).cs := CellsAt.m9 e0 e1 e2 e3 e4 e5 e6 e7 e8
 unfold readS at h9e
 simp only at h9e
 have X9 := gC X8 o9 (by omega) (by simp)
 obtain ⟨u0, u1, u2, u3⟩ := CellsAt.u4 (show CellsAt h9 h0.nx 0 [.int .u8 (.ofNat x.what), .int .u8 (.ofNat x.a), .int .u8 (.ofNat x.b), .int .u8 (.ofNat x.n)] from X9)
 have b12 : ∀ h t x' y, binR P h .rem t x' y (.int .u8 (.ofNat x.n)) (.int .u8 (.ofNat 12)) = .val (.int .u8 (.ofNat (x.n % 12))) h := fun h t x' y => brem h t x' y .u8 x.n 12 (by omega)
 have b3 : ∀ h t x' y, binR P h .rem t x' y (.int .u8 (.ofNat x.a)) (.int .u8 (.ofNat 3)) = .val (.int .u8 (.ofNat (x.a % 3))) h := fun h t x' y => brem h t x' y .u8 x.a 3 (by omega)
 have b10 : ∀ h t x' y, binR P h .rem t x' y (.int .u8 (.ofNat x.what)) (.int .u8 (.ofNat 10)) = .val (.int .u8 (.ofNat (x.what % 10))) h := fun h t x' y => brem h t x' y .u8 x.what 10 (by omega)
 have w12 : wrapF .u64 (Int.ofNat (x.n % 12)) = Int.ofNat (x.n % 12) := u64_id (by omega)
 have w3 : wrapF .i64 (Int.ofNat (x.a % 3)) = Int.ofNat (x.a % 3) := i64_id (by omega)
 have dx : ∀ s : List Nat, s = bytesOf ⟨#[]⟩ → s = [] := fun s h => h
 have o29 : Og h2 h9 [] := o6.t (o7.t (o8.t o9))
 have o69 : Og h6 h9 [] := o7.t (o8.t o9)
 have A9 : CellsAt h9 h2.nx 0 (oneS x).cs := gC A6 o69 (by omega) (by simp)
 have B9 : CellsAt h9 h7.nx 0 (twoS x).cs := gC B8 o9 (by omega) (by simp)
 have R9 := gC R2 o29 (by omega) (by simp)
 have wr9 := kw wr2 o29 (by omega) (by simp)
 have l29 : h2.nx < h9.nx:= by omega
 have l79 : h7.nx < h9.nx:= by omega
 have l89 : h8.nx < h9.nx:= by omega
 have o09 : Og h0 h9 [] := o1.t (o2.t o29)
 have l19 : h1.nx < h9.nx:= by omega
 have l01 : h0.nx ≤ h1.nx:= by omega
 have leaf : ∀ (hz : H) (l : List Op) (n : Nat), Og h9 hz [] → l.length = n → 0 < n → n ≤ 3 → ∃ hr hF, hr = hz.newCells 80 (l.flatMap Op.cs) ∧ hF = hr.sts h1.nx 0 [.int .i64 (.ofNat 0), .int .u64 (.ofNat 0), .int .u64 (.ofNat 0), .bool false, .nilslice, .slice hz.nx 0 n (.exact n), .nilslice, .int .u64 (.ofNat 0)] ∧
   CellsAt hr h1.nx 0 [.int .i64 (.ofNat 0), .int .u64 (.ofNat 0), .int .u64 (.ofNat 0), .bool false, .nilslice, .nilslice, .nilslice, .int .u64 (.ofNat 0)] ∧ wrAt hr h1.nx = true ∧
   CellsAt hF h1.nx 0 [.int .i64 (.ofNat 0), .int .u64 (.ofNat 0), .int .u64 (.ofNat 0), .bool false, .nilslice, .slice hz.nx 0 n (.exact n), .nilslice, .int .u64 (.ofNat 0)] ∧ Og h0 hF [] ∧ RqAt hF (thenS l) .nilslice (.slice hz.nx 0 n (.exact n)) .nilslice := by
  intro hz l n oz hl h0n hn3
  have xz := oz.1.1
  have Rz := gC R9 oz l19 (by simp)
  have wrz := kw wr9 oz l19 (by simp)
  obtain ⟨hr, hre⟩ : ∃ hr, hr = hz.newCells 80 (l.flatMap Op.cs) := ⟨_, rfl⟩
  have or9 : Og hz hr []:= by rw [hre]; exact (Og.refl _ _).new _ _
  have xr : hr.nx = hz.nx + 1:= by rw [hre]; rfl
  have wrr := kw wrz or9 (by omega) (by simp)
  obtain ⟨hF, hFe⟩ : ∃ hF, hF = hr.sts h1.nx 0 [.int .i64 (.ofNat 0), .int .u64 (.ofNat 0), .int .u64 (.ofNat 0), .bool false, .nilslice, .slice hz.nx 0 n (.exact n), .nilslice, .int .u64 (.ofNat 0)] := ⟨_, rfl⟩
  refine ⟨hr, hF, hre, hFe, gC Rz or9 (by omega) (by simp), wrr, by rw [hFe]; exact CellsAt.sts (o := 0) wrr _, ?_, ?_⟩
  ·rw [hFe]; exact ((o09.t oz).t or9).sts (.inr l01)
  ·refine ⟨.none, ?_, .none, Nat.zero_le _, by show l.length ≤ _; omega, Nat.zero_le _⟩
   show SliceAt hF _ l.length (l.flatMap Op.cs)
   rw [hl]
   refine .cell _ _ _ _ _ (by rw [hFe, nx_sts]; omega) (fun i hi => ?_)
   rw [hFe, Nat.zero_add, cellAt_of_get (get_sts _ _ _ _ (by omega)), hre, cellAt_new, if_pos rfl]
 obtain ⟨a0, a1, a2, a3, a4, a5, a6, a7, a8⟩ := CellsAt.u9 (show CellsAt h9 h2.nx 0 [.int .i64 (.ofNat 1), .str (keyS x.a), .str [], .str [x.n], .int .u64 (.ofNat 0), .int .i64 (.ofNat 0), .bool false, .bool false, .bool true] from A9)
 obtain ⟨b0', b1', b2', b3', b4', b5', b6', b7', b8'⟩ := CellsAt.u9 (show CellsAt h9 h7.nx 0 [.int .i64 (.ofNat 2), .str (keyS x.b), .str [], .str [], .int .u64 (.ofNat 0), .int .i64 (.ofNat 0), .bool false, .bool false, .bool true] from B9)
 obtain ⟨e0, e1, e2, e3, e4, e5, e6, e7, e8⟩ := CellsAt.u9 (show CellsAt h9 h8.nx 0 [.int .i64 (.ofNat 0), .str (bytesOf ⟨#[97]⟩), .str (bytesOf ⟨#[0]⟩), .str [], .int .u64 (.ofNat (x.n % 12)), .int .i64 (.ofNat (x.a % 3)), .bool false, .bool false, .bool false] from C9)
 rcases (by omega : x.what % 10 = 0 ∨ x.what % 10 = 1 ∨ x.what % 10 = 2 ∨ x.what % 10 = 3 ∨ x.what % 10 = 4 ∨ x.what % 10 = 5 ∨ x.what % 10 = 6 ∨ x.what % 10 = 7 ∨ 8 ≤ x.what % 10) with hk | hk | hk | hk | hk | hk | hk | hk | hk
 ·have e : reqS x = thenS [oneS x]:= by unfold reqS; rw [if_pos (by omega)]
  obtain ⟨hr, hF, hre, hFe, Rr, wrr, RF, oF, rq⟩ := leaf h9 [oneS x] 1 (Og.refl _ _) rfl (by omega) (by omega)
  have hre' : hr = h9.newCells 80 [.int .i64 (.ofNat 1), .str (keyS x.a), .str [], .str [x.n], .int .u64 (.ofNat 0), .int .i64 (.ofNat 0), .bool false, .bool false, .bool true] := hre
  obtain ⟨f0, f1, f2, f3, f4, f5, f6, f7⟩ := Rr.u8
  obtain ⟨g0, g1, g2, g3, g4, g5, g6, g7⟩ := RF.u8
  repeat' (first | ((with_reducible refine st1 ?_); (conv => whnf); (with_reducible refine ⟨?_⟩)) | ((with_reducible refine retW_intro rfl ?_); (conv => arg 2; whnf)) | ((with_reducible first | refine iB ?_ ?_ | refine gWt ?_ ?_ | refine gWf ?_ ?_) <;> intro hb <;> (try simp only [hb])) | (simp only [B, xB, F, reduceLT, reduceLeDiff, reduceEqDiff, reduceAdd, reduceMul, reduceSub, ↓reduceIte, eq_self, h8e, r0, r1, r2, r3, b12, b3, b10, w12, w3, h9e, u0, u1, u2, u3, hk, a0, a1, a2, a3, a4, a5, a6, a7, a8, ← hre', f0, f1, f2, f3, f4, f5, f6, f7, wrr, ← hFe, g0, g1, g2, g3, g4, g5, g6, g7]))
  exact ⟨.nilslice, .slice h9.nx 0 1 (.exact 1), .nilslice, by rw [e]; rfl, oF, by rw [e]; exact rq⟩
 ·have e : reqS x = thenS [oneS x]:= by unfold reqS; rw [if_pos (by omega)]
  obtain ⟨hr, hF, hre, hFe, Rr, wrr, RF, oF, rq⟩ := leaf h9 [oneS x] 1 (Og.refl _ _) rfl (by omega) (by omega)
  have hre' : hr = h9.newCells 80 [.int .i64 (.ofNat 1), .str (keyS x.a), .str [], .str [x.n], .int .u64 (.ofNat 0), .int .i64 (.ofNat 0), .bool false, .bool false, .bool true] := hre
  obtain ⟨f0, f1, f2, f3, f4, f5, f6, f7⟩ := Rr.u8
  obtain ⟨g0, g1, g2, g3, g4, g5, g6, g7⟩ := RF.u8
  repeat' (first | ((with_reducible refine st1 ?_); (conv => whnf); (with_reducible refine ⟨?_⟩)) | ((with_reducible refine retW_intro rfl ?_); (conv => arg 2; whnf)) | ((with_reducible first | refine iB ?_ ?_ | refine gWt ?_ ?_ | refine gWf ?_ ?_) <;> intro hb <;> (try simp only [hb])) | (simp only [B, xB, F, reduceLT, reduceLeDiff, reduceEqDiff, reduceAdd, reduceMul, reduceSub, ↓reduceIte, eq_self, h8e, r0, r1, r2, r3, b12, b3, b10, w12, w3, h9e, u0, u1, u2, u3, hk, a0, a1, a2, a3, a4, a5, a6, a7, a8, ← hre', f0, f1, f2, f3, f4, f5, f6, f7, wrr, ← hFe, g0, g1, g2, g3, g4, g5, g6, g7]))
  exact ⟨.nilslice, .slice h9.nx 0 1 (.exact 1), .nilslice, by rw [e]; rfl, oF, by rw [e]; exact rq⟩
 ·have e : reqS x = thenS [oneS x]:= by unfold reqS; rw [if_pos (by omega)]
  obtain ⟨hr, hF, hre, hFe, Rr, wrr, RF, oF, rq⟩ := leaf h9 [oneS x] 1 (Og.refl _ _) rfl (by omega) (by omega)
  have hre' : hr = h9.newCells 80 [.int .i64 (.ofNat 1), .str (keyS x.a), .str [], .str [x.n], .int .u64 (.ofNat 0), .int .i64 (.ofNat 0), .bool false, .bool false, .bool true] := hre
  obtain ⟨f0, f1, f2, f3, f4, f5, f6, f7⟩ := Rr.u8
  obtain ⟨g0, g1, g2, g3, g4, g5, g6, g7⟩ := RF.u8
  repeat' (first | ((with_reducible refine st1 ?_); (conv => whnf); (with_reducible refine ⟨?_⟩)) | ((with_reducible refine retW_intro rfl ?_); (conv => arg 2; whnf)) | ((with_reducible first | refine iB ?_ ?_ | refine gWt ?_ ?_ | refine gWf ?_ ?_) <;> intro hb <;> (try simp only [hb])) | (simp only [B, xB, F, reduceLT, reduceLeDiff, reduceEqDiff, reduceAdd, reduceMul, reduceSub, ↓reduceIte, eq_self, h8e, r0, r1, r2, r3, b12, b3, b10, w12, w3, h9e, u0, u1, u2, u3, hk, a0, a1, a2, a3, a4, a5, a6, a7, a8, ← hre', f0, f1, f2, f3, f4, f5, f6, f7, wrr, ← hFe, g0, g1, g2, g3, g4, g5, g6, g7]))
  exact ⟨.nilslice, .slice h9.nx 0 1 (.exact 1), .nilslice, by rw [e]; rfl, oF, by rw [e]; exact rq⟩
 ·have e : reqS x = thenS [twoS x]:= by unfold reqS; rw [if_neg (by omega), if_pos (by omega)]
  obtain ⟨hr, hF, hre, hFe, Rr, wrr, RF, oF, rq⟩ := leaf h9 [twoS x] 1 (Og.refl _ _) rfl (by omega) (by omega)
  have hre' : hr = h9.newCells 80 [.int .i64 (.ofNat 2), .str (keyS x.b), .str [], .str [], .int .u64 (.ofNat 0), .int .i64 (.ofNat 0), .bool false, .bool false, .bool true] := hre
  obtain ⟨f0, f1, f2, f3, f4, f5, f6, f7⟩ := Rr.u8
  obtain ⟨g0, g1, g2, g3, g4, g5, g6, g7⟩ := RF.u8
  repeat' (first | ((with_reducible refine st1 ?_); (conv => whnf); (with_reducible refine ⟨?_⟩)) | ((with_reducible refine retW_intro rfl ?_); (conv => arg 2; whnf)) | ((with_reducible first | refine iB ?_ ?_ | refine gWt ?_ ?_ | refine gWf ?_ ?_) <;> intro hb <;> (try simp only [hb])) | (simp only [B, xB, F, reduceLT, reduceLeDiff, reduceEqDiff, reduceAdd, reduceMul, reduceSub, ↓reduceIte, eq_self, h8e, r0, r1, r2, r3, b12, b3, b10, w12, w3, h9e, u0, u1, u2, u3, hk, b0', b1', b2', b3', b4', b5', b6', b7', b8', ← hre', f0, f1, f2, f3, f4, f5, f6, f7, wrr, ← hFe, g0, g1, g2, g3, g4, g5, g6, g7]))
  exact ⟨.nilslice, .slice h9.nx 0 1 (.exact 1), .nilslice, by rw [e]; rfl, oF, by rw [e]; exact rq⟩
 ·have e : reqS x = thenS [oneS x, readS x, twoS x]:= by unfold reqS; rw [if_neg (by omega), if_neg (by omega), if_pos (by omega)]
  obtain ⟨hr, hF, hre, hFe, Rr, wrr, RF, oF, rq⟩ := leaf h9 [oneS x, readS x, twoS x] 3 (Og.refl _ _) rfl (by omega) (by omega)
  have hre' : hr = h9.newCells 80 [.int .i64 (.ofNat 1), .str (keyS x.a), .str [], .str [x.n], .int .u64 (.ofNat 0), .int .i64 (.ofNat 0), .bool false, .bool false, .bool true, .int .i64 (.ofNat 0), .str (bytesOf ⟨#[97]⟩), .str (bytesOf ⟨#[0]⟩), .str [], .int .u64 (.ofNat (x.n % 12)), .int .i64 (.ofNat (x.a % 3)), .bool false, .bool false, .bool false, .int .i64 (.ofNat 2), .str (keyS x.b), .str [], .str [], .int .u64 (.ofNat 0), .int .i64 (.ofNat 0), .bool false, .bool false, .bool true] := hre
  obtain ⟨f0, f1, f2, f3, f4, f5, f6, f7⟩ := Rr.u8
  obtain ⟨g0, g1, g2, g3, g4, g5, g6, g7⟩ := RF.u8
  repeat' (first | ((with_reducible refine st1 ?_); (conv => whnf); (with_reducible refine ⟨?_⟩)) | ((with_reducible refine retW_intro rfl ?_); (conv => arg 2; whnf)) | ((with_reducible first | refine iB ?_ ?_ | refine gWt ?_ ?_ | refine gWf ?_ ?_) <;> intro hb <;> (try simp only [hb])) | (simp only [B, xB, F, reduceLT, reduceLeDiff, reduceEqDiff, reduceAdd, reduceMul, reduceSub, ↓reduceIte, eq_self, h8e, r0, r1, r2, r3, b12, b3, b10, w12, w3, h9e, u0, u1, u2, u3, hk, a0, a1, a2, a3, a4, a5, a6, a7, a8, b0', b1', b2', b3', b4', b5', b6', b7', b8', e0, e1, e2, e3, e4, e5, e6, e7, e8, ← hre', f0, f1, f2, f3, f4, f5, f6, f7, wrr, ← hFe, g0, g1, g2, g3, g4, g5, g6, g7]))
  exact ⟨.nilslice, .slice h9.nx 0 3 (.exact 3), .nilslice, by rw [e]; rfl, oF, by rw [e]; exact rq⟩
 ·have e : reqS x = thenS [readS x, delS x]:= by unfold reqS; rw [if_neg (by omega), if_neg (by omega), if_neg (by omega), if_pos (by omega)]
  repeat' (first | ((with_reducible refine st1 ?_); (conv => whnf); (with_reducible refine ⟨?_⟩)) | ((with_reducible refine st_dp ord14_0 ?_ rfl rfl ?_); exact rfl; (conv => arg 4; whnf); (conv => arg 3; whnf)) | ((with_reducible refine st_dp ord14_1 ?_ rfl rfl ?_); exact rfl; (conv => arg 4; whnf); (conv => arg 3; whnf)) | ((with_reducible refine st_dp ord14_2 ?_ rfl rfl ?_); exact rfl; (conv => arg 4; whnf); (conv => arg 3; whnf)) | ((with_reducible refine retW_intro rfl ?_); (conv => arg 2; whnf)) | ((with_reducible first | refine iB ?_ ?_ | refine gWt ?_ ?_ | refine gWf ?_ ?_ | refine gXt ?_ ?_ | refine gXf ?_ ?_) <;> intro hb <;> (try simp only [hb])) | ((with_reducible show drawP _ _ _ _ _ _ _ _ _); first | ((with_reducible apply kP_rd); exact rfl; exact rfl) | ((with_reducible apply kP_rg); exact rfl; exact rfl; exact rfl) | ((with_reducible apply kP_cv); exact rfl; exact rfl; kernel_rfl) | ((with_reducible apply kP_al); exact rfl; exact rfl; exact rfl) | ((with_reducible apply kP_fl); exact rfl; exact rfl; exact rfl) | ((with_reducible apply kP_ex); exact rfl; exact rfl; kernel_rfl; exact rfl) | ((with_reducible apply kP_eg); exact rfl; exact rfl; kernel_rfl; exact rfl) | ((with_reducible refine kP_nl ?_ ?_))) | ((with_reducible show eOk _ _ _ _ _ _); first | (exact eok_nil) | (refine ke_rd ?_ ?_ ?_; exact rfl) | (apply ke_rg; exact rfl; exact rfl) | (refine ke_cv ?_ ?_ ?_ ?_; exact rfl; kernel_rfl) | (apply ke_fl; exact rfl) | (apply ke_al; exact rfl; exact rfl)) | ((with_reducible refine freshIs_new ?_); kernel_rfl) | (simp only [B, xB, F, reduceLT, reduceLeDiff, reduceEqDiff, reduceAdd, reduceMul, reduceSub, ↓reduceIte, eq_self, h8e, r0, r1, r2, r3, b12, b3, b10, w12, w3, h9e, u0, u1, u2, u3, hk, e0, e1, e2, e3, e4, e5, e6, e7, e8]))
  refine ((keyC h9 x.a).call P).mono P ?_
  rintro _ ha ⟨rfl, oa⟩
  have xa := oa.1.1
  obtain ⟨v0, v1, v2, v3⟩ := CellsAt.u4 (show CellsAt ha h0.nx 0 [.int .u8 (.ofNat x.what), .int .u8 (.ofNat x.a), .int .u8 (.ofNat x.b), .int .u8 (.ofNat x.n)] from gC X9 oa (by omega) (by simp))
  obtain ⟨d0, d1, d2, d3, d4, d5, d6, d7, d8⟩ := CellsAt.u9 (show CellsAt ha h8.nx 0 [.int .i64 (.ofNat 0), .str (bytesOf ⟨#[97]⟩), .str (bytesOf ⟨#[0]⟩), .str [], .int .u64 (.ofNat (x.n % 12)), .int .i64 (.ofNat (x.a % 3)), .bool false, .bool false, .bool false] from gC C9 oa (by omega) (by simp))
  repeat' (first | ((with_reducible refine st1 ?_); (conv => whnf); (with_reducible refine ⟨?_⟩)) | ((with_reducible refine st_dp ord14_0 ?_ rfl rfl ?_); exact rfl; (conv => arg 4; whnf); (conv => arg 3; whnf)) | ((with_reducible refine st_dp ord14_1 ?_ rfl rfl ?_); exact rfl; (conv => arg 4; whnf); (conv => arg 3; whnf)) | ((with_reducible refine st_dp ord14_2 ?_ rfl rfl ?_); exact rfl; (conv => arg 4; whnf); (conv => arg 3; whnf)) | ((with_reducible refine retW_intro rfl ?_); (conv => arg 2; whnf)) | ((with_reducible first | refine iB ?_ ?_ | refine gWt ?_ ?_ | refine gWf ?_ ?_ | refine gXt ?_ ?_ | refine gXf ?_ ?_) <;> intro hb <;> (try simp only [hb])) | ((with_reducible show drawP _ _ _ _ _ _ _ _ _); first | ((with_reducible apply kP_rd); exact rfl; exact rfl) | ((with_reducible apply kP_rg); exact rfl; exact rfl; exact rfl) | ((with_reducible apply kP_cv); exact rfl; exact rfl; kernel_rfl) | ((with_reducible apply kP_al); exact rfl; exact rfl; exact rfl) | ((with_reducible apply kP_fl); exact rfl; exact rfl; exact rfl) | ((with_reducible apply kP_ex); exact rfl; exact rfl; kernel_rfl; exact rfl) | ((with_reducible apply kP_eg); exact rfl; exact rfl; kernel_rfl; exact rfl) | ((with_reducible refine kP_nl ?_ ?_))) | ((with_reducible show eOk _ _ _ _ _ _); first | (exact eok_nil) | (refine ke_rd ?_ ?_ ?_; exact rfl) | (apply ke_rg; exact rfl; exact rfl) | (refine ke_cv ?_ ?_ ?_ ?_; exact rfl; kernel_rfl) | (apply ke_fl; exact rfl) | (apply ke_al; exact rfl; exact rfl)) | ((with_reducible refine freshIs_new ?_); kernel_rfl) | (simp only [B, xB, F, reduceLT, reduceLeDiff, reduceEqDiff, reduceAdd, reduceMul, reduceSub, ↓reduceIte, eq_self, v0, v1, v2, v3, d0, d1, d2, d3, d4, d5, d6, d7, d8]))
  refine ((keyC ha x.b).call P).mono P ?_
  rintro _ hb ⟨rfl, ob⟩
  have xb := ob.1.1
  obtain ⟨v0, v1, v2, v3⟩ := CellsAt.u4 (show CellsAt hb h0.nx 0 [.int .u8 (.ofNat x.what), .int .u8 (.ofNat x.a), .int .u8 (.ofNat x.b), .int .u8 (.ofNat x.n)] from gC X9 (oa.t ob) (by omega) (by simp))
  obtain ⟨d0, d1, d2, d3, d4, d5, d6, d7, d8⟩ := CellsAt.u9 (show CellsAt hb h8.nx 0 [.int .i64 (.ofNat 0), .str (bytesOf ⟨#[97]⟩), .str (bytesOf ⟨#[0]⟩), .str [], .int .u64 (.ofNat (x.n % 12)), .int .i64 (.ofNat (x.a % 3)), .bool false, .bool false, .bool false] from gC C9 (oa.t ob) (by omega) (by simp))
  obtain ⟨hr, hF, hre, hFe, Rr, wrr, RF, oF, rq⟩ := leaf hb [readS x, delS x] 2 (oa.t ob) rfl (by omega) (by omega)
  have hre' : hr = hb.newCells 80 [.int .i64 (.ofNat 0), .str (bytesOf ⟨#[97]⟩), .str (bytesOf ⟨#[0]⟩), .str [], .int .u64 (.ofNat (x.n % 12)), .int .i64 (.ofNat (x.a % 3)), .bool false, .bool false, .bool false, .int .i64 (.ofNat 2), .str (keyS x.a), .str (keyS x.b), .str [], .int .u64 (.ofNat 0), .int .i64 (.ofNat 0), .bool false, .bool false, .bool false] := hre
  obtain ⟨f0, f1, f2, f3, f4, f5, f6, f7⟩ := Rr.u8
  obtain ⟨g0, g1, g2, g3, g4, g5, g6, g7⟩ := RF.u8
  repeat' (first | ((with_reducible refine st1 ?_); (conv => whnf); (with_reducible refine ⟨?_⟩)) | ((with_reducible refine st_dp ord14_0 ?_ rfl rfl ?_); exact rfl; (conv => arg 4; whnf); (conv => arg 3; whnf)) | ((with_reducible refine st_dp ord14_1 ?_ rfl rfl ?_); exact rfl; (conv => arg 4; whnf); (conv => arg 3; whnf)) | ((with_reducible refine st_dp ord14_2 ?_ rfl rfl ?_); exact rfl; (conv => arg 4; whnf); (conv => arg 3; whnf)) | ((with_reducible refine retW_intro rfl ?_); (conv => arg 2; whnf)) | ((with_reducible first | refine iB ?_ ?_ | refine gWt ?_ ?_ | refine gWf ?_ ?_ | refine gXt ?_ ?_ | refine gXf ?_ ?_) <;> intro hb <;> (try simp only [hb])) | ((with_reducible show drawP _ _ _ _ _ _ _ _ _); first | ((with_reducible apply kP_rd); exact rfl; exact rfl) | ((with_reducible apply kP_rg); exact rfl; exact rfl; exact rfl) | ((with_reducible apply kP_cv); exact rfl; exact rfl; kernel_rfl) | ((with_reducible apply kP_al); exact rfl; exact rfl; exact rfl) | ((with_reducible apply kP_fl); exact rfl; exact rfl; exact rfl) | ((with_reducible apply kP_ex); exact rfl; exact rfl; kernel_rfl; exact rfl) | ((with_reducible apply kP_eg); exact rfl; exact rfl; kernel_rfl; exact rfl) | ((with_reducible refine kP_nl ?_ ?_))) | ((with_reducible show eOk _ _ _ _ _ _); first | (exact eok_nil) | (refine ke_rd ?_ ?_ ?_; exact rfl) | (apply ke_rg; exact rfl; exact rfl) | (refine ke_cv ?_ ?_ ?_ ?_; exact rfl; kernel_rfl) | (apply ke_fl; exact rfl) | (apply ke_al; exact rfl; exact rfl)) | ((with_reducible refine freshIs_new ?_); kernel_rfl) | (simp only [B, xB, F, reduceLT, reduceLeDiff, reduceEqDiff, reduceAdd, reduceMul, reduceSub, ↓reduceIte, eq_self, v0, v1, v2, v3, d0, d1, d2, d3, d4, d5, d6, d7, d8, ← hre', f0, f1, f2, f3, f4, f5, f6, f7, wrr, ← hFe, g0, g1, g2, g3, g4, g5, g6, g7]))
  exact ⟨.nilslice, .slice hb.nx 0 2 (.exact 2), .nilslice, by rw [e]; rfl, oF, by rw [e]; exact rq⟩
 ·have e : reqS x = thenS [oneS x, oneS x]:= by unfold reqS; rw [if_neg (by omega), if_neg (by omega), if_neg (by omega), if_neg (by omega), if_pos (by omega)]
  obtain ⟨hr, hF, hre, hFe, Rr, wrr, RF, oF, rq⟩ := leaf h9 [oneS x, oneS x] 2 (Og.refl _ _) rfl (by omega) (by omega)
  have hre' : hr = h9.newCells 80 [.int .i64 (.ofNat 1), .str (keyS x.a), .str [], .str [x.n], .int .u64 (.ofNat 0), .int .i64 (.ofNat 0), .bool false, .bool false, .bool true, .int .i64 (.ofNat 1), .str (keyS x.a), .str [], .str [x.n], .int .u64 (.ofNat 0), .int .i64 (.ofNat 0), .bool false, .bool false, .bool true] := hre
  obtain ⟨f0, f1, f2, f3, f4, f5, f6, f7⟩ := Rr.u8
  obtain ⟨g0, g1, g2, g3, g4, g5, g6, g7⟩ := RF.u8
  repeat' (first | ((with_reducible refine st1 ?_); (conv => whnf); (with_reducible refine ⟨?_⟩)) | ((with_reducible refine retW_intro rfl ?_); (conv => arg 2; whnf)) | ((with_reducible first | refine iB ?_ ?_ | refine gWt ?_ ?_ | refine gWf ?_ ?_) <;> intro hb <;> (try simp only [hb])) | (simp only [B, xB, F, reduceLT, reduceLeDiff, reduceEqDiff, reduceAdd, reduceMul, reduceSub, ↓reduceIte, eq_self, h8e, r0, r1, r2, r3, b12, b3, b10, w12, w3, h9e, u0, u1, u2, u3, hk, a0, a1, a2, a3, a4, a5, a6, a7, a8, ← hre', f0, f1, f2, f3, f4, f5, f6, f7, wrr, ← hFe, g0, g1, g2, g3, g4, g5, g6, g7]))
  exact ⟨.nilslice, .slice h9.nx 0 2 (.exact 2), .nilslice, by rw [e]; rfl, oF, by rw [e]; exact rq⟩
 ·have e : reqS x = ⟨.ofNat 0, 0, 0, false, [cmpS x], [oneS x], [twoS x, readS x], 0⟩:= by unfold reqS; rw [if_neg (by omega), if_neg (by omega), if_neg (by omega), if_neg (by omega), if_neg (by omega), if_pos (by omega)]
  have b3n : ∀ h t x' y, binR P h .rem t x' y (.int .u8 (.ofNat x.n)) (.int .u8 (.ofNat 3)) = .val (.int .u8 (.ofNat (x.n % 3))) h := fun h t x' y => brem h t x' y .u8 x.n 3 (by omega)
  have wn3 : wrapF .u64 (Int.ofNat (x.n % 3)) = Int.ofNat (x.n % 3) := u64_id (by omega)
  obtain ⟨ha, hae⟩ : ∃ ha, ha = h9.newCells 80 [.int .i64 (.ofNat 1), .str (keyS x.a), .str [], .str [x.n], .int .u64 (.ofNat 0), .int .i64 (.ofNat 0), .bool false, .bool false, .bool true] := ⟨_, rfl⟩
  have oa : Og h9 ha []:= by rw [hae]; exact (Og.refl _ _).new _ _
  have xa : ha.nx = h9.nx + 1:= by rw [hae]; rfl
  obtain ⟨hb, hbe⟩ : ∃ hb, hb = ha.newCells 80 [.int .i64 (.ofNat 2), .str (keyS x.b), .str [], .str [], .int .u64 (.ofNat 0), .int .i64 (.ofNat 0), .bool false, .bool false, .bool true, .int .i64 (.ofNat 0), .str (bytesOf ⟨#[97]⟩), .str (bytesOf ⟨#[0]⟩), .str [], .int .u64 (.ofNat (x.n % 12)), .int .i64 (.ofNat (x.a % 3)), .bool false, .bool false, .bool false] := ⟨_, rfl⟩
  have ob : Og ha hb []:= by rw [hbe]; exact (Og.refl _ _).new _ _
  have xb : hb.nx = ha.nx + 1:= by rw [hbe]; rfl
  have F1a : freshIs 80 [.int .i64 (.ofNat 1), .str (keyS x.a), .str [], .str [x.n], .int .u64 (.ofNat 0), .int .i64 (.ofNat 0), .bool false, .bool false, .bool true] (ha.t.get h9.nx) = true:= by rw [hae]; exact freshIs_new (T.same_refl _)
  have F1b : freshIs 80 [.int .i64 (.ofNat 1), .str (keyS x.a), .str [], .str [x.n], .int .u64 (.ofNat 0), .int .i64 (.ofNat 0), .bool false, .bool false, .bool true] (hb.t.get h9.nx) = true:= by rw [ob.1.2 h9.nx (by omega) (by simp)]; exact F1a
  have F2b : freshIs 80 [.int .i64 (.ofNat 2), .str (keyS x.b), .str [], .str [], .int .u64 (.ofNat 0), .int .i64 (.ofNat 0), .bool false, .bool false, .bool true, .int .i64 (.ofNat 0), .str (bytesOf ⟨#[97]⟩), .str (bytesOf ⟨#[0]⟩), .str [], .int .u64 (.ofNat (x.n % 12)), .int .i64 (.ofNat (x.a % 3)), .bool false, .bool false, .bool false] (hb.t.get ha.nx) = true:= by rw [hbe]; exact freshIs_new (T.same_refl _)
  obtain ⟨p0a, p1a, p2a, p3a⟩ := CellsAt.u4 (show CellsAt ha h0.nx 0 [.int .u8 (.ofNat x.what), .int .u8 (.ofNat x.a), .int .u8 (.ofNat x.b), .int .u8 (.ofNat x.n)] from gC X9 oa (by omega) (by simp))
  obtain ⟨i0a, i1a, i2a, i3a, i4a, i5a, i6a, i7a, i8a⟩ := CellsAt.u9 (show CellsAt ha h2.nx 0 [.int .i64 (.ofNat 1), .str (keyS x.a), .str [], .str [x.n], .int .u64 (.ofNat 0), .int .i64 (.ofNat 0), .bool false, .bool false, .bool true] from gC A9 oa (by omega) (by simp))
  obtain ⟨j0a, j1a, j2a, j3a, j4a, j5a, j6a, j7a, j8a⟩ := CellsAt.u9 (show CellsAt ha h7.nx 0 [.int .i64 (.ofNat 2), .str (keyS x.b), .str [], .str [], .int .u64 (.ofNat 0), .int .i64 (.ofNat 0), .bool false, .bool false, .bool true] from gC B9 oa (by omega) (by simp))
  obtain ⟨k0a, k1a, k2a, k3a, k4a, k5a, k6a, k7a, k8a⟩ := CellsAt.u9 (show CellsAt ha h8.nx 0 [.int .i64 (.ofNat 0), .str (bytesOf ⟨#[97]⟩), .str (bytesOf ⟨#[0]⟩), .str [], .int .u64 (.ofNat (x.n % 12)), .int .i64 (.ofNat (x.a % 3)), .bool false, .bool false, .bool false] from gC C9 oa (by omega) (by simp))
  obtain ⟨p0b, p1b, p2b, p3b⟩ := CellsAt.u4 (show CellsAt hb h0.nx 0 [.int .u8 (.ofNat x.what), .int .u8 (.ofNat x.a), .int .u8 (.ofNat x.b), .int .u8 (.ofNat x.n)] from gC X9 (oa.t ob) (by omega) (by simp))
  obtain ⟨i0b, i1b, i2b, i3b, i4b, i5b, i6b, i7b, i8b⟩ := CellsAt.u9 (show CellsAt hb h2.nx 0 [.int .i64 (.ofNat 1), .str (keyS x.a), .str [], .str [x.n], .int .u64 (.ofNat 0), .int .i64 (.ofNat 0), .bool false, .bool false, .bool true] from gC A9 (oa.t ob) (by omega) (by simp))
  obtain ⟨j0b, j1b, j2b, j3b, j4b, j5b, j6b, j7b, j8b⟩ := CellsAt.u9 (show CellsAt hb h7.nx 0 [.int .i64 (.ofNat 2), .str (keyS x.b), .str [], .str [], .int .u64 (.ofNat 0), .int .i64 (.ofNat 0), .bool false, .bool false, .bool true] from gC B9 (oa.t ob) (by omega) (by simp))
  obtain ⟨k0b, k1b, k2b, k3b, k4b, k5b, k6b, k7b, k8b⟩ := CellsAt.u9 (show CellsAt hb h8.nx 0 [.int .i64 (.ofNat 0), .str (bytesOf ⟨#[97]⟩), .str (bytesOf ⟨#[0]⟩), .str [], .int .u64 (.ofNat (x.n % 12)), .int .i64 (.ofNat (x.a % 3)), .bool false, .bool false, .bool false] from gC C9 (oa.t ob) (by omega) (by simp))
  have m0 : (h0.nx = h9.nx) = False:= by simp; omega
  have m1 : (h0.nx = ha.nx) = False:= by simp; omega
  have m2 : (h2.nx = h9.nx) = False:= by simp; omega
  have m3 : (h2.nx = ha.nx) = False:= by simp; omega
  have m4 : (h7.nx = h9.nx) = False:= by simp; omega
  have m5 : (h7.nx = ha.nx) = False:= by simp; omega
  have m6 : (h8.nx = h9.nx) = False:= by simp; omega
  have m7 : (h8.nx = ha.nx) = False:= by simp; omega
  have m8 : (h9.nx = ha.nx) = False:= by simp; omega
  repeat' (first | ((with_reducible refine st1 ?_); (conv => whnf); (with_reducible refine ⟨?_⟩)) | ((with_reducible refine st_dp ord14_0 ?_ rfl rfl ?_); exact rfl; (conv => arg 4; whnf); (conv => arg 3; whnf)) | ((with_reducible refine st_dp ord14_1 ?_ rfl rfl ?_); exact rfl; (conv => arg 4; whnf); (conv => arg 3; whnf)) | ((with_reducible refine st_dp ord14_2 ?_ rfl rfl ?_); exact rfl; (conv => arg 4; whnf); (conv => arg 3; whnf)) | ((with_reducible refine retW_intro rfl ?_); (conv => arg 2; whnf)) | ((with_reducible first | refine iB ?_ ?_ | refine gWt ?_ ?_ | refine gWf ?_ ?_ | refine gXt ?_ ?_ | refine gXf ?_ ?_) <;> intro hb <;> (try simp only [hb])) | ((with_reducible show drawP _ _ _ _ _ _ _ _ _); first | ((with_reducible apply kP_rd); exact rfl; exact rfl) | ((with_reducible apply kP_rg); exact rfl; exact rfl; exact rfl) | ((with_reducible apply kP_cv); exact rfl; exact rfl; kernel_rfl) | ((with_reducible apply kP_al); exact rfl; exact rfl; exact rfl) | ((with_reducible apply kP_fl); exact rfl; exact rfl; exact rfl) | ((with_reducible apply kP_ex); exact rfl; exact rfl; kernel_rfl; exact rfl) | ((with_reducible apply kP_eg); exact rfl; exact rfl; kernel_rfl; exact rfl) | ((with_reducible refine kP_nl ?_ ?_))) | ((with_reducible show eOk _ _ _ _ _ _); first | (exact eok_nil) | (refine ke_rd ?_ ?_ ?_; exact rfl) | (apply ke_rg; exact rfl; exact rfl) | (refine ke_cv ?_ ?_ ?_ ?_; exact rfl; kernel_rfl) | (apply ke_fl; exact rfl) | (apply ke_al; exact rfl; exact rfl)) | ((with_reducible refine freshIs_new ?_); kernel_rfl) | (simp only [B, xB, F, reduceLT, reduceLeDiff, reduceEqDiff, reduceAdd, reduceMul, reduceSub, ↓reduceIte, eq_self, h8e, r0, r1, r2, r3, b12, b3, b10, w12, w3, h9e, u0, u1, u2, u3, hk, a0, a1, a2, a3, a4, a5, a6, a7, a8, b0', b1', b2', b3', b4', b5', b6', b7', b8', e0, e1, e2, e3, e4, e5, e6, e7, e8, b3n, wn3, ← hae, ← hbe, p0a, p1a, p2a, p3a, i0a, i1a, i2a, i3a, i4a, i5a, i6a, i7a, i8a, j0a, j1a, j2a, j3a, j4a, j5a, j6a, j7a, j8a, k0a, k1a, k2a, k3a, k4a, k5a, k6a, k7a, k8a, p0b, p1b, p2b, p3b, i0b, i1b, i2b, i3b, i4b, i5b, i6b, i7b, i8b, j0b, j1b, j2b, j3b, j4b, j5b, j6b, j7b, j8b, k0b, k1b, k2b, k3b, k4b, k5b, k6b, k7b, k8b, m0, m1, m2, m3, m4, m5, m6, m7, m8, F1a, F1b, F2b]))
  refine ((keyC hb x.b).call P).mono P ?_
  rintro _ hc ⟨rfl, oc⟩
  have xc := oc.1.1
  have F1c : freshIs 80 [.int .i64 (.ofNat 1), .str (keyS x.a), .str [], .str [x.n], .int .u64 (.ofNat 0), .int .i64 (.ofNat 0), .bool false, .bool false, .bool true] (hc.t.get h9.nx) = true:= by rw [oc.1.2 h9.nx (by omega) (by simp)]; exact F1b
  have F2c : freshIs 80 [.int .i64 (.ofNat 2), .str (keyS x.b), .str [], .str [], .int .u64 (.ofNat 0), .int .i64 (.ofNat 0), .bool false, .bool false, .bool true, .int .i64 (.ofNat 0), .str (bytesOf ⟨#[97]⟩), .str (bytesOf ⟨#[0]⟩), .str [], .int .u64 (.ofNat (x.n % 12)), .int .i64 (.ofNat (x.a % 3)), .bool false, .bool false, .bool false] (hc.t.get ha.nx) = true:= by rw [oc.1.2 ha.nx (by omega) (by simp)]; exact F2b
  obtain ⟨hd, hde⟩ : ∃ hd, hd = hc.newCells 68 [.str (keyS x.b), .int .i64 (.ofNat 0), .int .i64 (.ofNat 3), .int .u64 (.ofNat (x.n % 3)), .str []] := ⟨_, rfl⟩
  have od : Og hc hd []:= by rw [hde]; exact (Og.refl _ _).new _ _
  have xd : hd.nx = hc.nx + 1:= by rw [hde]; rfl
  have F1d : freshIs 80 [.int .i64 (.ofNat 1), .str (keyS x.a), .str [], .str [x.n], .int .u64 (.ofNat 0), .int .i64 (.ofNat 0), .bool false, .bool false, .bool true] (hd.t.get h9.nx) = true:= by rw [od.1.2 h9.nx (by omega) (by simp)]; exact F1c
  have F2d : freshIs 80 [.int .i64 (.ofNat 2), .str (keyS x.b), .str [], .str [], .int .u64 (.ofNat 0), .int .i64 (.ofNat 0), .bool false, .bool false, .bool true, .int .i64 (.ofNat 0), .str (bytesOf ⟨#[97]⟩), .str (bytesOf ⟨#[0]⟩), .str [], .int .u64 (.ofNat (x.n % 12)), .int .i64 (.ofNat (x.a % 3)), .bool false, .bool false, .bool false] (hd.t.get ha.nx) = true:= by rw [od.1.2 ha.nx (by omega) (by simp)]; exact F2c
  have oab := oa.t ob
  have oac := oab.t oc
  have oad := oac.t od
  obtain ⟨p0c, p1c, p2c, p3c⟩ := CellsAt.u4 (show CellsAt hc h0.nx 0 [.int .u8 (.ofNat x.what), .int .u8 (.ofNat x.a), .int .u8 (.ofNat x.b), .int .u8 (.ofNat x.n)] from gC X9 oac (by omega) (by simp))
  obtain ⟨i0c, i1c, i2c, i3c, i4c, i5c, i6c, i7c, i8c⟩ := CellsAt.u9 (show CellsAt hc h2.nx 0 [.int .i64 (.ofNat 1), .str (keyS x.a), .str [], .str [x.n], .int .u64 (.ofNat 0), .int .i64 (.ofNat 0), .bool false, .bool false, .bool true] from gC A9 oac (by omega) (by simp))
  obtain ⟨j0c, j1c, j2c, j3c, j4c, j5c, j6c, j7c, j8c⟩ := CellsAt.u9 (show CellsAt hc h7.nx 0 [.int .i64 (.ofNat 2), .str (keyS x.b), .str [], .str [], .int .u64 (.ofNat 0), .int .i64 (.ofNat 0), .bool false, .bool false, .bool true] from gC B9 oac (by omega) (by simp))
  obtain ⟨k0c, k1c, k2c, k3c, k4c, k5c, k6c, k7c, k8c⟩ := CellsAt.u9 (show CellsAt hc h8.nx 0 [.int .i64 (.ofNat 0), .str (bytesOf ⟨#[97]⟩), .str (bytesOf ⟨#[0]⟩), .str [], .int .u64 (.ofNat (x.n % 12)), .int .i64 (.ofNat (x.a % 3)), .bool false, .bool false, .bool false] from gC C9 oac (by omega) (by simp))
  obtain ⟨p0d, p1d, p2d, p3d⟩ := CellsAt.u4 (show CellsAt hd h0.nx 0 [.int .u8 (.ofNat x.what), .int .u8 (.ofNat x.a), .int .u8 (.ofNat x.b), .int .u8 (.ofNat x.n)] from gC X9 oad (by omega) (by simp))
  obtain ⟨i0d, i1d, i2d, i3d, i4d, i5d, i6d, i7d, i8d⟩ := CellsAt.u9 (show CellsAt hd h2.nx 0 [.int .i64 (.ofNat 1), .str (keyS x.a), .str [], .str [x.n], .int .u64 (.ofNat 0), .int .i64 (.ofNat 0), .bool false, .bool false, .bool true] from gC A9 oad (by omega) (by simp))
  obtain ⟨j0d, j1d, j2d, j3d, j4d, j5d, j6d, j7d, j8d⟩ := CellsAt.u9 (show CellsAt hd h7.nx 0 [.int .i64 (.ofNat 2), .str (keyS x.b), .str [], .str [], .int .u64 (.ofNat 0), .int .i64 (.ofNat 0), .bool false, .bool false, .bool true] from gC B9 oad (by omega) (by simp))
  obtain ⟨k0d, k1d, k2d, k3d, k4d, k5d, k6d, k7d, k8d⟩ := CellsAt.u9 (show CellsAt hd h8.nx 0 [.int .i64 (.ofNat 0), .str (bytesOf ⟨#[97]⟩), .str (bytesOf ⟨#[0]⟩), .str [], .int .u64 (.ofNat (x.n % 12)), .int .i64 (.ofNat (x.a % 3)), .bool false, .bool false, .bool false] from gC C9 oad (by omega) (by simp))
  have Rd := gC R9 oad l19 (by simp)
  have wrd := kw wr9 oad l19 (by simp)
  obtain ⟨hF, hFe⟩ : ∃ hF, hF = hd.sts h1.nx 0 [.int .i64 (.ofNat 0), .int .u64 (.ofNat 0), .int .u64 (.ofNat 0), .bool false, .slice hc.nx 0 1 (.exact 1), .slice h9.nx 0 1 (.exact 1), .slice ha.nx 0 2 (.exact 2), .int .u64 (.ofNat 0)] := ⟨_, rfl⟩
  have oF : Og h0 hF []:= by rw [hFe]; exact (o09.t oad).sts (.inr l01)
  have RF : CellsAt hF h1.nx 0 [.int .i64 (.ofNat 0), .int .u64 (.ofNat 0), .int .u64 (.ofNat 0), .bool false, .slice hc.nx 0 1 (.exact 1), .slice h9.nx 0 1 (.exact 1), .slice ha.nx 0 2 (.exact 2), .int .u64 (.ofNat 0)]:= by rw [hFe]; exact CellsAt.sts (o := 0) wrd _
  obtain ⟨f0, f1, f2, f3, f4, f5, f6, f7⟩ := Rd.u8
  obtain ⟨g0, g1, g2, g3, g4, g5, g6, g7⟩ := RF.u8
  have m9 : (h0.nx = hc.nx) = False:= by simp; omega
  have m10 : (h1.nx = hc.nx) = False:= by simp; omega
  have m11 : (h2.nx = hc.nx) = False:= by simp; omega
  have m12 : (h7.nx = hc.nx) = False:= by simp; omega
  have m13 : (h8.nx = hc.nx) = False:= by simp; omega
  repeat' (first | ((with_reducible refine st1 ?_); (conv => whnf); (with_reducible refine ⟨?_⟩)) | ((with_reducible refine st_dp ord14_0 ?_ rfl rfl ?_); exact rfl; (conv => arg 4; whnf); (conv => arg 3; whnf)) | ((with_reducible refine st_dp ord14_1 ?_ rfl rfl ?_); exact rfl; (conv => arg 4; whnf); (conv => arg 3; whnf)) | ((with_reducible refine st_dp ord14_2 ?_ rfl rfl ?_); exact rfl; (conv => arg 4; whnf); (conv => arg 3; whnf)) | ((with_reducible refine retW_intro rfl ?_); (conv => arg 2; whnf)) | ((with_reducible first | refine iB ?_ ?_ | refine gWt ?_ ?_ | refine gWf ?_ ?_ | refine gXt ?_ ?_ | refine gXf ?_ ?_) <;> intro hb <;> (try simp only [hb])) | ((with_reducible show drawP _ _ _ _ _ _ _ _ _); first | ((with_reducible apply kP_rd); exact rfl; exact rfl) | ((with_reducible apply kP_rg); exact rfl; exact rfl; exact rfl) | ((with_reducible apply kP_cv); exact rfl; exact rfl; kernel_rfl) | ((with_reducible apply kP_al); exact rfl; exact rfl; exact rfl) | ((with_reducible apply kP_fl); exact rfl; exact rfl; exact rfl) | ((with_reducible apply kP_ex); exact rfl; exact rfl; kernel_rfl; exact rfl) | ((with_reducible apply kP_eg); exact rfl; exact rfl; kernel_rfl; exact rfl) | ((with_reducible refine kP_nl ?_ ?_))) | ((with_reducible show eOk _ _ _ _ _ _); first | (exact eok_nil) | (refine ke_rd ?_ ?_ ?_; exact rfl) | (apply ke_rg; exact rfl; exact rfl) | (refine ke_cv ?_ ?_ ?_ ?_; exact rfl; kernel_rfl) | (apply ke_fl; exact rfl) | (apply ke_al; exact rfl; exact rfl)) | ((with_reducible refine freshIs_new ?_); kernel_rfl) | (simp only [B, xB, F, reduceLT, reduceLeDiff, reduceEqDiff, reduceAdd, reduceMul, reduceSub, ↓reduceIte, eq_self, b3n, wn3, p0c, p1c, p2c, p3c, i0c, i1c, i2c, i3c, i4c, i5c, i6c, i7c, i8c, j0c, j1c, j2c, j3c, j4c, j5c, j6c, j7c, j8c, k0c, k1c, k2c, k3c, k4c, k5c, k6c, k7c, k8c, F1c, F2c, ← hde, p0d, p1d, p2d, p3d, i0d, i1d, i2d, i3d, i4d, i5d, i6d, i7d, i8d, j0d, j1d, j2d, j3d, j4d, j5d, j6d, j7d, j8d, k0d, k1d, k2d, k3d, k4d, k5d, k6d, k7d, k8d, F1d, F2d, m0, m1, m2, m3, m4, m5, m6, m7, m8, m9, m10, m11, m12, m13, f0, f1, f2, f3, f4, f5, f6, f7, wrd, ← hFe, g0, g1, g2, g3, g4, g5, g6, g7]))
  have kF : ∀ c, c ≠ h1.nx → hF.t.get c = hd.t.get c := fun c hc => by rw [hFe, get_sts _ _ _ _ hc]
  have xF : hF.nx = hd.nx:= by rw [hFe, nx_sts]
  refine ⟨.slice hc.nx 0 1 (.exact 1), .slice h9.nx 0 1 (.exact 1), .slice ha.nx 0 2 (.exact 2), by rw [e]; rfl, oF, by
   rw [e]
   refine ⟨?_, ?_, ?_, by show 1 ≤ 1000000; omega, by show 1 ≤ 1000000; omega, by show 2 ≤ 1000000; omega⟩
   ·refine .cell hc.nx 0 1 (.exact 1) _ (by omega) (fun i hi => ?_)
    rw [Nat.zero_add, cellAt_of_get (kF hc.nx (by omega)), hde, cellAt_new, if_pos rfl]; rfl
   ·refine .cell h9.nx 0 1 (.exact 1) _ (by omega) (fun i hi => ?_)
    rw [Nat.zero_add, cellAt_of_get (kF h9.nx (by omega)), cellAt_of_get (od.1.2 h9.nx (by omega) (by simp)), cellAt_of_get (oc.1.2 h9.nx (by omega) (by simp)), cellAt_of_get (ob.1.2 h9.nx (by omega) (by simp)), hae, cellAt_new, if_pos rfl]; rfl
   ·refine .cell ha.nx 0 2 (.exact 2) _ (by omega) (fun i hi => ?_)
    rw [Nat.zero_add, cellAt_of_get (kF ha.nx (by omega)), cellAt_of_get (od.1.2 ha.nx (by omega) (by simp)), cellAt_of_get (oc.1.2 ha.nx (by omega) (by simp)), hbe, cellAt_new, if_pos rfl]; rfl⟩
 ·have e : reqS x = ⟨.ofNat 1, 0, 0, false, [], [], [], x.n⟩:= by unfold reqS; rw [if_neg (by omega), if_neg (by omega), if_neg (by omega), if_neg (by omega), if_neg (by omega), if_neg (by omega)]
  have nk : ∀ i, i < 8 → (x.what % 10 = i) = False := fun i hi => by simp; omega
  have wn : wrapF .u64 (Int.ofNat x.n) = Int.ofNat x.n := u64_id (by omega)
  obtain ⟨hF, hFe⟩ : ∃ hF, hF = h9.sts h1.nx 0 [.int .i64 (.ofNat 1), .int .u64 (.ofNat 0), .int .u64 (.ofNat 0), .bool false, .nilslice, .nilslice, .nilslice, .int .u64 (.ofNat x.n)] := ⟨_, rfl⟩
  have oF : Og h0 hF []:= by rw [hFe]; exact o09.sts (.inr l01)
  have RF : CellsAt hF h1.nx 0 [.int .i64 (.ofNat 1), .int .u64 (.ofNat 0), .int .u64 (.ofNat 0), .bool false, .nilslice, .nilslice, .nilslice, .int .u64 (.ofNat x.n)]:= by rw [hFe]; exact CellsAt.sts (o := 0) wr9 _
  obtain ⟨f0, f1, f2, f3, f4, f5, f6, f7⟩ := R9.u8
  obtain ⟨g0, g1, g2, g3, g4, g5, g6, g7⟩ := RF.u8
  repeat' (first | ((with_reducible refine st1 ?_); (conv => whnf); (with_reducible refine ⟨?_⟩)) | ((with_reducible refine retW_intro rfl ?_); (conv => arg 2; whnf)) | ((with_reducible first | refine iB ?_ ?_ | refine gWt ?_ ?_ | refine gWf ?_ ?_) <;> intro hb <;> (try simp only [hb])) | (simp only [B, xB, F, reduceLT, reduceLeDiff, reduceEqDiff, reduceAdd, reduceMul, reduceSub, ↓reduceIte, eq_self, h8e, r0, r1, r2, r3, b12, b3, b10, w12, w3, h9e, u0, u1, u2, u3, nk 0 (by omega), nk 1 (by omega), nk 2 (by omega), nk 3 (by omega), nk 4 (by omega), nk 5 (by omega), nk 6 (by omega), nk 7 (by omega), wn, f0, f1, f2, f3, f4, f5, f6, f7, wr9, ← hFe, g0, g1, g2, g3, g4, g5, g6, g7]))
  exact ⟨.nilslice, .nilslice, .nilslice, by rw [e]; rfl, oF, by rw [e]; exact ⟨.none, .none, .none, Nat.zero_le _, Nat.zero_le _, Nat.zero_le _⟩⟩
end
end Go.Proofs.Ytnedigoajoflaaa.M

namespace Go.Proofs.Ytnedigoajoflaaa.M
open Go Go.AX
noncomputable section
set_option maxRecDepth 100000
theorem cutOp_id {o : Op} (h1 : o.key.length ≤ 20) (h2 : o.fin.length ≤ 20) (h3 : o.val.length ≤ 40) : cutOp o = o := by
 unfold cutOp
 rw [List.take_of_length_le h1, List.take_of_length_le h2, List.take_of_length_le h3]
theorem cut_one (x : Sm) : cutOp (oneS x) = oneS x := cutOp_id (by have := keyS_len x.a; show (keyS x.a).length ≤ 20; omega) (Nat.zero_le _) (by show 1 ≤ 40; omega)
theorem cut_two (x : Sm) : cutOp (twoS x) = twoS x := cutOp_id (by have := keyS_len x.b; show (keyS x.b).length ≤ 20; omega) (Nat.zero_le _) (Nat.zero_le _)
theorem cut_read (x : Sm) : cutOp (readS x) = readS x := cutOp_id (by show 1 ≤ 20; omega) (by show 1 ≤ 20; omega) (Nat.zero_le _)
theorem cut_del (x : Sm) : cutOp (delS x) = delS x := cutOp_id (by have := keyS_len x.a; show (keyS x.a).length ≤ 20; omega) (by have := keyS_len x.b; show (keyS x.b).length ≤ 20; omega) (Nat.zero_le _)
theorem cut_cmp (x : Sm) : cutCmp (cmpS x) = cmpS x := by
 unfold cutCmp
 rw [List.take_of_length_le (by have := keyS_len x.b; show (keyS x.b).length ≤ 20; omega), List.take_of_length_le (by exact Nat.zero_le _)]
theorem cut_then {l : List Op} (h : l.length ≤ 8) (hc : l.map cutOp = l) : cutR (thenS l) = thenS l := by
 show ({ thenS l with cmps := cutCs [], th := cutO l, el := cutO [] } : Rq) = _
 unfold cutO
 rw [List.take_of_length_le h, hc]; rfl
theorem cut_reqS (x : Sm) : cutR (reqS x) = reqS x := by
 unfold reqS
 split
 ·exact cut_then (by simp) (by simp [cut_one])
 split
 ·exact cut_then (by simp) (by simp [cut_two])
 split
 ·exact cut_then (by simp) (by simp [cut_one, cut_two, cut_read])
 split
 ·exact cut_then (by simp) (by simp [cut_read, cut_del])
 split
 ·exact cut_then (by simp) (by simp [cut_one])
 split
 ·unfold cutR cutO cutCs
  simp [cut_one, cut_two, cut_read, cut_cmp]
 ·rfl
theorem txn_cases2 (rev comp : Nat) (L : List Rec) (r : Rq) : (txnS rev comp L r).R = [] ∨ (checkR r = 0 ∧ ∃ tk, ¬ Tw (brV r tk) ∧ (txnS rev comp L r).R = (opsS rev L (brV r tk)).2) := by
 unfold txnS
 split
 ·rename_i q
  split
  ·exact .inl rfl
  ·rename_i q2
   split
   ·refine .inr ⟨q, _, fun h => q2 ((twB_iff _).2 ((tw_eq _).1 h)), rfl⟩
   ·exact .inl rfl
 ·exact .inl rfl
theorem pair_all {α : Type} {r : α → α → Prop} : ∀ {l : List α}, (∀ x, x ∈ l → ∀ y, y ∈ l → r x y) → l.Pairwise r
 | [], _ => List.Pairwise.nil
 | a :: l, h => List.Pairwise.cons (fun y hy => h a (by simp) y (by simp [hy])) (pair_all fun x hx y hy => h x (by simp [hx]) y (by simp [hy]))
theorem HOk.app {rev : Nat} {L R : List Rec} (h : HOk L) (hm : ∀ x, x ∈ L → x.main ≤ rev) (hr : ∀ x, x ∈ R → x.main = rev + 1) (nd : (R.map (·.kv.key)).Nodup) : HOk (L ++ R) := by
 refine ⟨?_, ?_⟩
 ·rw [List.pairwise_append]
  refine ⟨h.so, ?_, fun x hx y hy => by have := hm x hx; have := hr y hy; omega⟩
  exact pair_all fun x hx y hy => by have := hr x hx; have := hr y hy; omega
 ·rw [List.pairwise_append]
  refine ⟨h.ks, ?_, fun x hx y hy e => by have := hm x hx; have := hr y hy; omega⟩
  rw [List.nodup_iff_pairwise_ne, List.pairwise_map] at nd
  exact nd.imp fun {a b} h => fun _ => h
theorem apply_h {n rev comp : Nat} {L : List Rec} (h : MOk n rev L) (hh : HOk L) (hn : n ≤ 240) (x : Sm) (a : Ap) (ha : a = applyS rev comp L (reqS x)) : MOk (n + 6) a.rev (L ++ a.R) ∧ HOk (L ++ a.R) ∧ rev ≤ a.rev ∧ a.rev ≤ rev + 1 ∧ ∀ y, y ∈ a.R → y.main = rev + 1 := by
 have h1 := apply_ok (comp := comp) h hn (reqS x)
 rw [cut_reqS, ← ha] at h1
 have hR : (∀ y, y ∈ a.R → y.main = rev + 1) ∧ (a.R.map (·.kv.key)).Nodup ∧ rev ≤ a.rev := by
  rw [ha]
  unfold applyS
  split
  ·simp only
   refine ⟨?_, ?_, by split <;> omega⟩
   ·rcases txn_cases2 rev comp L (reqS x) with e | ⟨hc, tk, tw, e⟩
    ·rw [e]; intro y hy; cases hy
    ·rw [e]
     have := opsS_main (rev := rev) (L := L) (brV (reqS x) tk) _ (Nat.le_refl _)
     rwa [List.take_length] at this
   ·rcases txn_cases2 rev comp L (reqS x) with e | ⟨hc, tk, tw, e⟩
    ·rw [e]; exact List.nodup_nil
    ·rw [e]
     have := opsS_ks (rev := rev) (L := L) tw (checkR_kind hc tk) (fun i hi => by
      have := (h.ops hn (reqS x) tk i (by rw [cut_reqS]; exact hi)).sh
      rwa [cut_reqS] at this) _ (Nat.le_refl _)
     rw [List.take_length] at this
     exact this.nd
  ·split
   ·exact ⟨fun y hy => (by cases hy), List.nodup_nil, Nat.le_refl _⟩
   ·exact ⟨fun y hy => (by cases hy), List.nodup_nil, Nat.le_refl _⟩
 exact ⟨h1.1, hh.app h.mn hR.1 hR.2.1, hR.2.2, h1.2, hR.1⟩
structure Then (rev : Nat) (L : List Rec) (main : Nat) (L0 L1 : List Rec) : Prop where
 e : L = L0 ++ L1
 l0 : ∀ x, x ∈ L0 → x.main ≤ main
 l1 : ∀ x, x ∈ L1 → main < x.main
 le : main ≤ rev
theorem Then.start {n rev : Nat} {L : List Rec} (h : MOk n rev L) : Then rev L rev L [] := ⟨by rw [List.append_nil], h.mn, fun x hx => (by cases hx), Nat.le_refl _⟩
theorem Then.next {rev main : Nat} {L L0 L1 R : List Rec} (t : Then rev L main L0 L1) {rev' : Nat} (h : rev ≤ rev') (hr : ∀ y, y ∈ R → y.main = rev + 1) : Then rev' (L ++ R) main L0 (L1 ++ R) :=
 ⟨by rw [t.e, List.append_assoc], t.l0, fun x hx => by
  rcases List.mem_append.1 hx with q | q
  ·exact t.l1 x q
  ·have := hr x q; have := t.le; omega, Nat.le_trans t.le h⟩
end
end Go.Proofs.Ytnedigoajoflaaa.M

namespace Go.Proofs.Ytnedigoajoflaaa.M
open Go Go.AX
noncomputable section
set_option maxRecDepth 100000
structure SyT (tm : T AV) (bm main recs : Nat) (tv : AV) : Prop where
 t5 : tm.get 5 = some (.ptr bm 0)
 t8 : tm.get 8 = some tv
 t9 : tm.get 9 = some (.int .u64 (.ofNat main))
 t10 : tm.get 10 = some (.int .i64 (.ofNat recs))
structure FlI (h1 : H) (r bm main recs : Nat) (tv : AV) (l : List KV) (m : Nat) (ds : List Nat) (tm : T AV) (h : H) (i : Nat) : Prop where
 ds : ds = []
 nn : m = l.length - i
 ii : i ≤ l.length
 t : SyT tm bm main recs tv
 t14 : tm.get 14 = some (.map r)
 t15 : tm.get 15 = some (.int .i64 (.ofNat i))
 mp : MapK encS h r (mN (ofKVs (l.take i)))
 oo : Og h1 h [r]
theorem kvs_upd {h : H} {r : Nat} {W : View} (m : MapK encS h r (mN W)) (k : List Nat) (x : KV) : ∃ h', updateA P 53 (.map r) (.str k) (.agg [.str x.key, .str x.val, .int .u64 (.ofNat x.cre), .int .u64 (.ofNat x.mod), .int .u64 (.ofNat x.ver)]) h = some h' ∧ MapK encS h' r (mN (putV k ⟨0, 0, x, false⟩ W)) ∧ Og h h' [r] := by
 obtain ⟨h2, hu, m2, x2, o2, g2⟩ := update_k (P := P) u53a k9m m k (.agg x.cs)
 rw [show (AV.agg x.cs) = .agg (Rec.mk 0 0 x false).kv.cs from rfl, put_mN] at m2
 exact ⟨h2, hu, m2, ⟨o2, g2⟩⟩
theorem Og.tr {h0 h1 h2 : H} {S : List Nat} (a : Og h0 h1 S) (b : Og h1 h2 S) : Og h0 h2 S :=
 ⟨⟨Nat.le_trans a.1.1 b.1.1, fun c hc hn => (b.1.2 c (Nat.lt_of_lt_of_le hc a.1.1) hn).trans (a.1.2 c hc hn)⟩, b.2.trans a.2⟩
set_option maxHeartbeats 4000000 in
theorem staysFill (h : H) (bm main recs : Nat) (tv : AV) (l : List KV) (hr : Rise l) (hz : l.length ≤ 1000000) (ts : SliceAt h tv l.length (l.flatMap KV.cs)) (tm : T AV) (t : SyT tm bm main recs tv) (K : KQ)
  (hK : ∀ tm' h' r, SyT tm' bm main recs tv → tm'.get 14 = some (.map r) → MapK encS h' r (mN (ofKVs l)) → h.nx ≤ r → Og h h' [] → codeW P 4 242 none (codeI (bodyC Try.f4) [1, 1, 1, 1, 1, 1, 1, 1, 1, 1, 1, 1, 1]) [] tm' h' K) :
  codeW P 4 242 none (codeI (bodyC Try.f4) [1, 1, 1, 1, 1, 1, 1, 1, 1, 1, 1]) [] tm h K := by
 obtain ⟨t5, t8, t9, t10⟩ := t
 have hlen := ts.len (P := P) u44a
 have tvo := sl_one ts
 obtain ⟨h1, h1e⟩ : ∃ h1, h1 = h.alloc (.map [] 0) := ⟨_, rfl⟩
 have o1 : Og h h1 []:= by rw [h1e]; exact (Og.refl _ _).alloc _
 have x1 : h1.nx = h.nx + 1:= by rw [h1e]; rfl
 have m1 : MapK encS h1 h.nx []:= by rw [h1e]; exact newMap h encS
 repeat' (first | ((with_reducible refine st1 ?_); (conv => whnf); (with_reducible refine ⟨?_⟩)) | ((with_reducible refine retW_intro rfl ?_); (conv => arg 2; whnf)) | ((with_reducible first | refine iB ?_ ?_ | refine gWt ?_ ?_ | refine gWf ?_ ?_) <;> intro hb <;> (try simp only [hb])) | (simp only [B, xB, F, reduceLT, reduceLeDiff, reduceEqDiff, reduceAdd, reduceMul, reduceSub, ↓reduceIte, eq_self, mk53, ← h1e]))
 refine st_loop (fun m ds tm h' => ∃ i, FlI h1 h.nx bm main recs tv l m ds tm h' i) l.length rfl ⟨0, rfl, rfl, Nat.zero_le _, ⟨by simp only [B, xB, F, reduceLT, reduceLeDiff, reduceEqDiff, reduceAdd, reduceMul, reduceSub, ↓reduceIte, eq_self, t5], by simp only [B, xB, F, reduceLT, reduceLeDiff, reduceEqDiff, reduceAdd, reduceMul, reduceSub, ↓reduceIte, eq_self, t8], by simp only [B, xB, F, reduceLT, reduceLeDiff, reduceEqDiff, reduceAdd, reduceMul, reduceSub, ↓reduceIte, eq_self, t9], by simp only [B, xB, F, reduceLT, reduceLeDiff, reduceEqDiff, reduceAdd, reduceMul, reduceSub, ↓reduceIte, eq_self, t10]⟩, by simp only [B, xB, F, reduceLT, reduceLeDiff, reduceEqDiff, reduceAdd, reduceMul, reduceSub, ↓reduceIte, eq_self], by simp only [B, xB, F, reduceLT, reduceLeDiff, reduceEqDiff, reduceAdd, reduceMul, reduceSub, ↓reduceIte, eq_self], m1, (Og.refl _ _)⟩ (fun m ds tm h' hI => ?_)
 clear t5 t8 t9 t10
 obtain ⟨i, rfl, rfl, ii, ⟨t5, t8, t9, t10⟩, t14, t15, mp, oo⟩ := hI
 have xo := oo.1.1
 by_cases hi : i < l.length
 ·have di : decide (i < l.length) = true := decide_eq_true hi
  have lt1 : (i < l.length) = True:= by simp [hi]
  obtain ⟨x, hx⟩ : ∃ x, l[i]? = some x := ⟨_, List.getElem?_eq_getElem hi⟩
  have tsh : SliceAt h' tv l.length (l.flatMap KV.cs) := ts.move (by omega) (fun c e => by have := sl_lt ts c e; rw [oo.1.2 c (by omega) (by simp; omega), o1.1.2 c this (by simp)])
  obtain ⟨bv, ov, cv, rfl, hbv, -⟩ := tsh.place (by omega)
  obtain ⟨q0, q1, q2, q3, q4⟩ := KV.at tsh hx
  have w1 : wrapF .i64 (Int.ofNat i + Int.ofNat 1) = Int.ofNat (i + 1) := i64_add (by omega)
  obtain ⟨h2, hu, m2, o2⟩ := kvs_upd mp x.key x
  rw [ofKVs_s hr hx] at m2
  repeat' (first | ((with_reducible refine st1 ?_); (conv => whnf); (with_reducible refine ⟨?_⟩)) | ((with_reducible refine st_dw ?_ rfl rfl ?_ ?_); exact rfl; kernel_rfl; (conv => arg 5; whnf); (conv => arg 3; whnf)) | ((with_reducible refine retW_intro rfl ?_); (conv => arg 2; whnf)) | ((with_reducible first | refine iB ?_ ?_ | refine gWt ?_ ?_ | refine gWf ?_ ?_ | refine gXt ?_ ?_ | refine gXf ?_ ?_) <;> intro hb <;> (try simp only [hb])) | ((with_reducible show drawI _ _ _ _ _ _ _ _ _); first | ((with_reducible refine kI_rd ?_ ?_); exact rfl) | ((with_reducible apply kI_rg); exact rfl; exact rfl) | ((with_reducible refine kI_cv ?_ ?_ ?_); exact rfl; kernel_rfl) | ((with_reducible apply kI_al); exact rfl; exact rfl) | ((with_reducible refine kI_ex ?_ ?_ ?_ ?_ ?_); exact rfl; kernel_rfl; exact rfl) | ((with_reducible apply kI_eg); exact rfl; kernel_rfl; exact rfl) | ((with_reducible refine kI_nl ?_ ?_))) | ((with_reducible show eOk _ _ _ _ _ _); first | (exact eok_nil) | (refine ke_rd ?_ ?_ ?_; exact rfl) | (apply ke_rg; exact rfl; exact rfl) | (refine ke_cv ?_ ?_ ?_ ?_; exact rfl; kernel_rfl) | (apply ke_fl; exact rfl) | (apply ke_al; exact rfl; exact rfl)) | ((with_reducible refine freshIs_new ?_); kernel_rfl) | (simp only [B, xB, F, reduceLT, reduceLeDiff, reduceEqDiff, reduceAdd, reduceMul, reduceSub, ↓reduceIte, eq_self, t5, t8, t9, t10, t14, t15, hlen, tvo, di, lt1, q0, q1, q2, q3, q4, @ex_mapUpdate, hu, oH_some, w1]))
  exact ⟨l.length - (i + 1), by omega, i + 1, rfl, rfl, by omega, ⟨by simp only [B, xB, F, reduceLT, reduceLeDiff, reduceEqDiff, reduceAdd, reduceMul, reduceSub, ↓reduceIte, eq_self, t5], by simp only [B, xB, F, reduceLT, reduceLeDiff, reduceEqDiff, reduceAdd, reduceMul, reduceSub, ↓reduceIte, eq_self, t8], by simp only [B, xB, F, reduceLT, reduceLeDiff, reduceEqDiff, reduceAdd, reduceMul, reduceSub, ↓reduceIte, eq_self, t9], by simp only [B, xB, F, reduceLT, reduceLeDiff, reduceEqDiff, reduceAdd, reduceMul, reduceSub, ↓reduceIte, eq_self, t10]⟩, by simp only [B, xB, F, reduceLT, reduceLeDiff, reduceEqDiff, reduceAdd, reduceMul, reduceSub, ↓reduceIte, eq_self, t14], by simp only [B, xB, F, reduceLT, reduceLeDiff, reduceEqDiff, reduceAdd, reduceMul, reduceSub, ↓reduceIte, eq_self], m2, oo.tr o2⟩
 ·have di : decide (i < l.length) = false := decide_eq_false hi
  obtain rfl : i = l.length:= by omega
  rw [List.take_length] at mp
  repeat' (first | (with_reducible refine stopC [1, 1, 1, 1, 1, 1, 1, 1, 1, 1, 1, 1, 1] ?_) | ((with_reducible refine st1 ?_); (conv => whnf); (with_reducible refine ⟨?_⟩)) | ((with_reducible refine retW_intro rfl ?_); (conv => arg 2; whnf)) | ((with_reducible first | refine iB ?_ ?_ | refine gWt ?_ ?_ | refine gWf ?_ ?_) <;> intro hb <;> (try simp only [hb])) | (simp only [B, xB, F, reduceLT, reduceLeDiff, reduceEqDiff, reduceAdd, reduceMul, reduceSub, ↓reduceIte, eq_self, t8, t15, hlen, tvo, di]))
  refine ⟨hK _ _ h.nx ⟨by simp only [B, xB, F, reduceLT, reduceLeDiff, reduceEqDiff, reduceAdd, reduceMul, reduceSub, ↓reduceIte, eq_self, t5], by simp only [B, xB, F, reduceLT, reduceLeDiff, reduceEqDiff, reduceAdd, reduceMul, reduceSub, ↓reduceIte, eq_self, t8], by simp only [B, xB, F, reduceLT, reduceLeDiff, reduceEqDiff, reduceAdd, reduceMul, reduceSub, ↓reduceIte, eq_self, t9], by simp only [B, xB, F, reduceLT, reduceLeDiff, reduceEqDiff, reduceAdd, reduceMul, reduceSub, ↓reduceIte, eq_self, t10]⟩ (by simp only [B, xB, F, reduceLT, reduceLeDiff, reduceEqDiff, reduceAdd, reduceMul, reduceSub, ↓reduceIte, eq_self, t14]) mp (Nat.le_refl _) ⟨⟨by omega, fun c hc _ => ?_⟩, oo.2.trans o1.2⟩⟩
  rw [oo.1.2 c (by omega) (by simp; omega), o1.1.2 c hc (by simp)]
end
end Go.Proofs.Ytnedigoajoflaaa.M

namespace Go.Proofs.Ytnedigoajoflaaa.M
open Go Go.AX
noncomputable section
set_option maxRecDepth 100000
theorem Ev.len (x : Ev) : x.cs.length = 13 := rfl
theorem u56a : P.underlying 56 = some (.slice 61):= by kernel_rfl
theorem evBox (h : H) (x : Ev) : ∃ h1, (h.newCells 61 [.int .u64 (.ofNat 0), .int .u64 (.ofNat 0), .bool false, .str [], .str [], .int .u64 (.ofNat 0), .int .u64 (.ofNat 0), .int .u64 (.ofNat 0), .str [], .str [], .int .u64 (.ofNat 0), .int .u64 (.ofNat 0), .int .u64 (.ofNat 0)]).sts h.nx 0 [.int .u64 (.ofNat x.main), .int .u64 (.ofNat x.sub), .bool x.tomb, .str x.kv.key, .str x.kv.val, .int .u64 (.ofNat x.kv.cre), .int .u64 (.ofNat x.kv.mod), .int .u64 (.ofNat x.kv.ver), .str x.prev.key, .str x.prev.val, .int .u64 (.ofNat x.prev.cre), .int .u64 (.ofNat x.prev.mod), .int .u64 (.ofNat x.prev.ver)] = h1 ∧ Og h h1 [] ∧ h1.nx = h.nx + 1 ∧ cellAt h1 h.nx 0 = some (.int .u64 (.ofNat x.main)) ∧ cellAt h1 h.nx 1 = some (.int .u64 (.ofNat x.sub)) ∧ cellAt h1 h.nx 2 = some (.bool x.tomb) ∧ cellAt h1 h.nx 3 = some (.str x.kv.key) ∧ cellAt h1 h.nx 4 = some (.str x.kv.val) ∧ cellAt h1 h.nx 5 = some (.int .u64 (.ofNat x.kv.cre)) ∧ cellAt h1 h.nx 6 = some (.int .u64 (.ofNat x.kv.mod)) ∧ cellAt h1 h.nx 7 = some (.int .u64 (.ofNat x.kv.ver)) ∧ cellAt h1 h.nx 8 = some (.str x.prev.key) ∧ cellAt h1 h.nx 9 = some (.str x.prev.val) ∧ cellAt h1 h.nx 10 = some (.int .u64 (.ofNat x.prev.cre)) ∧ cellAt h1 h.nx 11 = some (.int .u64 (.ofNat x.prev.mod)) ∧ cellAt h1 h.nx 12 = some (.int .u64 (.ofNat x.prev.ver)) := by
 refine ⟨_, rfl, ((Og.refl _ _).new _ _).sts (.inr (Nat.le_refl _)), by rw [nx_sts, nx_new], ?_⟩
 have c : ∀ j, j < 13 → cellAt ((h.newCells 61 [.int .u64 (.ofNat 0), .int .u64 (.ofNat 0), .bool false, .str [], .str [], .int .u64 (.ofNat 0), .int .u64 (.ofNat 0), .int .u64 (.ofNat 0), .str [], .str [], .int .u64 (.ofNat 0), .int .u64 (.ofNat 0), .int .u64 (.ofNat 0)]).sts h.nx 0 x.cs) h.nx j = x.cs[j]? := fun j hj => by
  rw [cellAt_sts (by rw [wrAt_new, if_pos rfl]), if_pos ⟨rfl, Nat.zero_le _, by show j < 0 + 13; omega⟩, Nat.sub_zero]
 exact ⟨c 0 (by omega), c 1 (by omega), c 2 (by omega), c 3 (by omega), c 4 (by omega), c 5 (by omega), c 6 (by omega), c 7 (by omega), c 8 (by omega), c 9 (by omega), c 10 (by omega), c 11 (by omega), c 12 (by omega)⟩
theorem Ev.at {h : H} {b o n : Nat} {cap : Cap} {l : List Ev} (sl : SliceAt h (.slice b o n cap) n (l.flatMap Ev.cs)) {i : Nat} {x : Ev} (hx : l[i]? = some x) : cellAt h b (o + i * 13) = some (.int .u64 (.ofNat x.main)) ∧ cellAt h b (o + (i * 13 + 1)) = some (.int .u64 (.ofNat x.sub)) ∧ cellAt h b (o + (i * 13 + 2)) = some (.bool x.tomb) ∧ cellAt h b (o + (i * 13 + 3)) = some (.str x.kv.key) ∧ cellAt h b (o + (i * 13 + 4)) = some (.str x.kv.val) ∧ cellAt h b (o + (i * 13 + 5)) = some (.int .u64 (.ofNat x.kv.cre)) ∧ cellAt h b (o + (i * 13 + 6)) = some (.int .u64 (.ofNat x.kv.mod)) ∧ cellAt h b (o + (i * 13 + 7)) = some (.int .u64 (.ofNat x.kv.ver)) ∧ cellAt h b (o + (i * 13 + 8)) = some (.str x.prev.key) ∧ cellAt h b (o + (i * 13 + 9)) = some (.str x.prev.val) ∧ cellAt h b (o + (i * 13 + 10)) = some (.int .u64 (.ofNat x.prev.cre)) ∧ cellAt h b (o + (i * 13 + 11)) = some (.int .u64 (.ofNat x.prev.mod)) ∧ cellAt h b (o + (i * 13 + 12)) = some (.int .u64 (.ofNat x.prev.ver)) := by
 have g : ∀ k, k < 13 → cellAt h b (o + (i * 13 + k)) = x.cs[k]? := fun k hk => cells_at Ev.len sl hx hk
 exact ⟨g 0 (by omega), g 1 (by omega), g 2 (by omega), g 3 (by omega), g 4 (by omega), g 5 (by omega), g 6 (by omega), g 7 (by omega), g 8 (by omega), g 9 (by omega), g 10 (by omega), g 11 (by omega), g 12 (by omega)⟩
structure EvL (h1 : H) (r bm main recs : Nat) (tv ev : AV) (E : List Ev) (W : View) (m : Nat) (ds : List Nat) (tm : T AV) (h : H) (i : Nat) : Prop where
 ds : ds = []
 nn : m = E.length - i
 ii : i ≤ E.length
 t : SyT tm bm main recs tv
 t14 : tm.get 14 = some (.map r)
 t16 : tm.get 16 = some ev
 t17 : tm.get 17 = some (.int .i64 (.ofNat i))
 mp : MapK encS h r (mN ((E.take i).foldl layE W))
 oo : Og h1 h [r]
theorem kvs_look {h : H} {r : Nat} {W : View} (m : MapK encS h r (mN W)) (k : List Nat) (x : KV) (e : getKV k W = x) : lookupA P 53 (.map r) (.str k) false h = some (.agg [.str x.key, .str x.val, .int .u64 (.ofNat x.cre), .int .u64 (.ofNat x.mod), .int .u64 (.ofNat x.ver)]) := by
 have := look_mN m k
 rw [e] at this; exact this
set_option maxHeartbeats 4000000 in
theorem staysEv (h : H) (r bm main recs : Nat) (tv ev : AV) (E : List Ev) (W : View) (hz : E.length ≤ 1000000) (hE : ∀ i x, E[i]? = some x → getKV x.kv.key ((E.take i).foldl layE W) = x.prev) (es : SliceAt h ev E.length (E.flatMap Ev.cs)) (nr : ∀ c, blkOf ev = some c → c ≠ r) (mp0 : MapK encS h r (mN W)) (tm : T AV) (t : SyT tm bm main recs tv) (u14 : tm.get 14 = some (.map r)) (u16 : tm.get 16 = some ev) (K : KQ)
  (hK : ∀ tm' h', SyT tm' bm main recs tv → tm'.get 14 = some (.map r) → tm'.get 16 = some ev → MapK encS h' r (mN (E.foldl layE W)) → Og h h' [r] → codeW P 4 242 none (codeI (bodyC Try.f4) [1, 1, 1, 1, 1, 1, 1, 1, 1, 1, 1, 1, 1, 1, 1]) [] tm' h' K) :
  codeW P 4 242 none (codeI (bodyC Try.f4) [1, 1, 1, 1, 1, 1, 1, 1, 1, 1, 1, 1, 1, 1]) [] tm h K := by
 obtain ⟨t5, t8, t9, t10⟩ := t
 have hlen := es.len (P := P) u56a
 have evo := sl_one es
 repeat' (first | ((with_reducible refine st1 ?_); (conv => whnf); (with_reducible refine ⟨?_⟩)) | ((with_reducible refine retW_intro rfl ?_); (conv => arg 2; whnf)) | ((with_reducible first | refine iB ?_ ?_ | refine gWt ?_ ?_ | refine gWf ?_ ?_) <;> intro hb <;> (try simp only [hb])) | (simp only [B, xB, F, reduceLT, reduceLeDiff, reduceEqDiff, reduceAdd, reduceMul, reduceSub, ↓reduceIte, eq_self]))
 refine st_loop (fun m ds tm h' => ∃ i, EvL h r bm main recs tv ev E W m ds tm h' i) E.length rfl ⟨0, rfl, rfl, Nat.zero_le _, ⟨by simp only [B, xB, F, reduceLT, reduceLeDiff, reduceEqDiff, reduceAdd, reduceMul, reduceSub, ↓reduceIte, eq_self, t5], by simp only [B, xB, F, reduceLT, reduceLeDiff, reduceEqDiff, reduceAdd, reduceMul, reduceSub, ↓reduceIte, eq_self, t8], by simp only [B, xB, F, reduceLT, reduceLeDiff, reduceEqDiff, reduceAdd, reduceMul, reduceSub, ↓reduceIte, eq_self, t9], by simp only [B, xB, F, reduceLT, reduceLeDiff, reduceEqDiff, reduceAdd, reduceMul, reduceSub, ↓reduceIte, eq_self, t10]⟩, by simp only [B, xB, F, reduceLT, reduceLeDiff, reduceEqDiff, reduceAdd, reduceMul, reduceSub, ↓reduceIte, eq_self, u14], by simp only [B, xB, F, reduceLT, reduceLeDiff, reduceEqDiff, reduceAdd, reduceMul, reduceSub, ↓reduceIte, eq_self, u16], by simp only [B, xB, F, reduceLT, reduceLeDiff, reduceEqDiff, reduceAdd, reduceMul, reduceSub, ↓reduceIte, eq_self], mp0, (Og.refl _ _)⟩ (fun m ds tm h' hI => ?_)
 clear t5 t8 t9 t10 u14 u16
 obtain ⟨i, rfl, rfl, ii, ⟨t5, t8, t9, t10⟩, t14, t16, t17, mp, oo⟩ := hI
 have xo := oo.1.1
 by_cases hi : i < E.length
 ·have di : decide (i < E.length) = true := decide_eq_true hi
  have lt1 : (i < E.length) = True:= by simp [hi]
  obtain ⟨x, hx⟩ : ∃ x, E[i]? = some x := ⟨_, List.getElem?_eq_getElem hi⟩
  have esh : SliceAt h' ev E.length (E.flatMap Ev.cs) := es.move (by omega) (fun c e => oo.1.2 c (sl_lt es c e) (by simp; exact nr c e))
  obtain ⟨bv, ov, cv, rfl, hbv, -⟩ := esh.place (by omega)
  obtain ⟨q0, q1, q2, q3, q4, q5, q6, q7, q8, q9, q10, q11, q12⟩ := Ev.at esh hx
  have w1 : wrapF .i64 (Int.ofNat i + Int.ofNat 1) = Int.ofNat (i + 1) := i64_add (by omega)
  obtain ⟨h2, h2e, o2, x2, y0, y1, y2, y3, y4, y5, y6, y7, y8, y9, y10, y11, y12⟩ := evBox h' x
  have lr := mp.lt
  have mp2 := mp.keep o2.1 (by simp)
  have lk := kvs_look mp2 x.kv.key x.prev (hE i x hx)
  have e1 := eqS_self x.prev.key
  have e2 := eqS_self x.prev.val
  have e3 : decide (x.prev.cre = x.prev.cre) = true := decide_eq_true rfl
  have e4 : decide (x.prev.mod = x.prev.mod) = true := decide_eq_true rfl
  have e5 : decide (x.prev.ver = x.prev.ver) = true := decide_eq_true rfl
  have hst : (E.take (i + 1)).foldl layE W = layE ((E.take i).foldl layE W) x:= by rw [List.take_add_one, hx, List.foldl_append]; rfl
  cases p : x.tomb with
  | true =>
   rw [p] at y2
   have hst' : (E.take (i + 1)).foldl layE W = delV x.kv.key ((E.take i).foldl layE W):= by rw [hst]; unfold layE; rw [p]; rfl
   obtain ⟨h3, hd, m3, x3, o3, g3⟩ := bi_delete_k (P := P) u53a k9m mp2 x.kv.key [9] []
   rw [del_mN] at m3
   repeat' (first | ((with_reducible refine st1 ?_); (conv => whnf); (with_reducible refine ⟨?_⟩)) | ((with_reducible refine retW_intro rfl ?_); (conv => arg 2; whnf)) | ((with_reducible first | refine iB ?_ ?_ | refine gWt ?_ ?_ | refine gWf ?_ ?_) <;> intro hb <;> (try simp only [hb])) | (simp only [B, xB, F, reduceLT, reduceLeDiff, reduceEqDiff, reduceAdd, reduceMul, reduceSub, ↓reduceIte, eq_self, t5, t8, t9, t10, t14, t16, t17, hlen, evo, di, lt1, q0, q1, q2, q3, q4, q5, q6, q7, q8, q9, q10, q11, q12, h2e, y0, y1, y2, y3, y4, y5, y6, y7, y8, y9, y10, y11, y12, @ex_lookup, lk, e1, e2, e3, e4, e5, hd, w1]))
   exact ⟨E.length - (i + 1), by omega, i + 1, rfl, rfl, by omega, ⟨by simp only [B, xB, F, reduceLT, reduceLeDiff, reduceEqDiff, reduceAdd, reduceMul, reduceSub, ↓reduceIte, eq_self, t5], by simp only [B, xB, F, reduceLT, reduceLeDiff, reduceEqDiff, reduceAdd, reduceMul, reduceSub, ↓reduceIte, eq_self, t8], by simp only [B, xB, F, reduceLT, reduceLeDiff, reduceEqDiff, reduceAdd, reduceMul, reduceSub, ↓reduceIte, eq_self, t9], by simp only [B, xB, F, reduceLT, reduceLeDiff, reduceEqDiff, reduceAdd, reduceMul, reduceSub, ↓reduceIte, eq_self, t10]⟩, by simp only [B, xB, F, reduceLT, reduceLeDiff, reduceEqDiff, reduceAdd, reduceMul, reduceSub, ↓reduceIte, eq_self, t14], by simp only [B, xB, F, reduceLT, reduceLeDiff, reduceEqDiff, reduceAdd, reduceMul, reduceSub, ↓reduceIte, eq_self, t16], by simp only [B, xB, F, reduceLT, reduceLeDiff, reduceEqDiff, reduceAdd, reduceMul, reduceSub, ↓reduceIte, eq_self], by rw [hst']; exact m3, oo.tr (o2.s1 ⟨o3, g3⟩)⟩
  | false =>
   rw [p] at y2
   have hst' : (E.take (i + 1)).foldl layE W = putV x.kv.key ⟨0, 0, x.kv, false⟩ ((E.take i).foldl layE W):= by rw [hst]; unfold layE; rw [p]; rfl
   obtain ⟨h3, hu, m3, o3, g3⟩ := kvs_upd mp2 x.kv.key x.kv
   repeat' (first | ((with_reducible refine st1 ?_); (conv => whnf); (with_reducible refine ⟨?_⟩)) | ((with_reducible refine retW_intro rfl ?_); (conv => arg 2; whnf)) | ((with_reducible first | refine iB ?_ ?_ | refine gWt ?_ ?_ | refine gWf ?_ ?_) <;> intro hb <;> (try simp only [hb])) | (simp only [B, xB, F, reduceLT, reduceLeDiff, reduceEqDiff, reduceAdd, reduceMul, reduceSub, ↓reduceIte, eq_self, t5, t8, t9, t10, t14, t16, t17, hlen, evo, di, lt1, q0, q1, q2, q3, q4, q5, q6, q7, q8, q9, q10, q11, q12, h2e, y0, y1, y2, y3, y4, y5, y6, y7, y8, y9, y10, y11, y12, @ex_lookup, lk, e1, e2, e3, e4, e5, @ex_mapUpdate, hu, oH_some, w1]))
   exact ⟨E.length - (i + 1), by omega, i + 1, rfl, rfl, by omega, ⟨by simp only [B, xB, F, reduceLT, reduceLeDiff, reduceEqDiff, reduceAdd, reduceMul, reduceSub, ↓reduceIte, eq_self, t5], by simp only [B, xB, F, reduceLT, reduceLeDiff, reduceEqDiff, reduceAdd, reduceMul, reduceSub, ↓reduceIte, eq_self, t8], by simp only [B, xB, F, reduceLT, reduceLeDiff, reduceEqDiff, reduceAdd, reduceMul, reduceSub, ↓reduceIte, eq_self, t9], by simp only [B, xB, F, reduceLT, reduceLeDiff, reduceEqDiff, reduceAdd, reduceMul, reduceSub, ↓reduceIte, eq_self, t10]⟩, by simp only [B, xB, F, reduceLT, reduceLeDiff, reduceEqDiff, reduceAdd, reduceMul, reduceSub, ↓reduceIte, eq_self, t14], by simp only [B, xB, F, reduceLT, reduceLeDiff, reduceEqDiff, reduceAdd, reduceMul, reduceSub, ↓reduceIte, eq_self, t16], by simp only [B, xB, F, reduceLT, reduceLeDiff, reduceEqDiff, reduceAdd, reduceMul, reduceSub, ↓reduceIte, eq_self], by rw [hst']; exact m3, oo.tr (o2.s1 ⟨o3, g3⟩)⟩
 ·have di : decide (i < E.length) = false := decide_eq_false hi
  obtain rfl : i = E.length:= by omega
  rw [List.take_length] at mp
  repeat' (first | (with_reducible refine stopC [1, 1, 1, 1, 1, 1, 1, 1, 1, 1, 1, 1, 1, 1, 1] ?_) | ((with_reducible refine st1 ?_); (conv => whnf); (with_reducible refine ⟨?_⟩)) | ((with_reducible refine retW_intro rfl ?_); (conv => arg 2; whnf)) | ((with_reducible first | refine iB ?_ ?_ | refine gWt ?_ ?_ | refine gWf ?_ ?_) <;> intro hb <;> (try simp only [hb])) | (simp only [B, xB, F, reduceLT, reduceLeDiff, reduceEqDiff, reduceAdd, reduceMul, reduceSub, ↓reduceIte, eq_self, t16, t17, hlen, evo, di]))
  exact ⟨hK _ _ ⟨by simp only [B, xB, F, reduceLT, reduceLeDiff, reduceEqDiff, reduceAdd, reduceMul, reduceSub, ↓reduceIte, eq_self, t5], by simp only [B, xB, F, reduceLT, reduceLeDiff, reduceEqDiff, reduceAdd, reduceMul, reduceSub, ↓reduceIte, eq_self, t8], by simp only [B, xB, F, reduceLT, reduceLeDiff, reduceEqDiff, reduceAdd, reduceMul, reduceSub, ↓reduceIte, eq_self, t9], by simp only [B, xB, F, reduceLT, reduceLeDiff, reduceEqDiff, reduceAdd, reduceMul, reduceSub, ↓reduceIte, eq_self, t10]⟩ (by simp only [B, xB, F, reduceLT, reduceLeDiff, reduceEqDiff, reduceAdd, reduceMul, reduceSub, ↓reduceIte, eq_self, t14]) (by simp only [B, xB, F, reduceLT, reduceLeDiff, reduceEqDiff, reduceAdd, reduceMul, reduceSub, ↓reduceIte, eq_self, t16]) mp oo⟩
end
end Go.Proofs.Ytnedigoajoflaaa.M

namespace Go.Proofs.Ytnedigoajoflaaa.M
open Go Go.AX
noncomputable section
set_option maxRecDepth 100000
structure EnL (h1 : H) (r bm main recs : Nat) (tv ev en : AV) (n : Nat) (m : Nat) (ds : List Nat) (tm : T AV) (h : H) (i : Nat) : Prop where
 ds : ds = []
 nn : m = n - i
 ii : i ≤ n
 t : SyT tm bm main recs tv
 t14 : tm.get 14 = some (.map r)
 t16 : tm.get 16 = some ev
 t19 : tm.get 19 = some en
 t20 : tm.get 20 = some (.int .i64 (.ofNat i))
 oo : Og h1 h []
set_option maxHeartbeats 8000000 in
theorem staysEnd (h : H) (r bm main recs rev comp : Nat) (tv ev v : AV) (E : List Ev) (W : View) (L : List Rec) (md : MdAt h bm L rev comp v) (hs : Short L) (hz : L.length ≤ 1000000) (hzE : E.length ≤ 1000000) (es : SliceAt h ev E.length (E.flatMap Ev.cs)) (mp : MapK encS h r (mN W)) (hmn : ∀ x, x ∈ L → x.main ≤ rev) (al : Alike W (vw L)) (hE : E.length = L.length - recs) (hrc : recs ≤ L.length)
  (tm : T AV) (t : SyT tm bm main recs tv) (u14 : tm.get 14 = some (.map r)) (u16 : tm.get 16 = some ev) :
  codeW P 4 242 none (codeI (bodyC Try.f4) [1, 1, 1, 1, 1, 1, 1, 1, 1, 1, 1, 1, 1, 1, 1]) [] tm h (retK P Try.f4 fun v _ => v = .bool true) := by
 obtain ⟨t5, t8, t9, t10⟩ := t
 have evo := sl_one es
 have c1 := md.c1
 have lbm := md.lt
 have lr := mp.lt
 repeat' (first | ((with_reducible refine st1 ?_); (conv => whnf); (with_reducible refine ⟨?_⟩)) | ((with_reducible refine retW_intro rfl ?_); (conv => arg 2; whnf)) | ((with_reducible first | refine iB ?_ ?_ | refine gWt ?_ ?_ | refine gWf ?_ ?_) <;> intro hb <;> (try simp only [hb])) | (simp only [B, xB, F, reduceLT, reduceLeDiff, reduceEqDiff, reduceAdd, reduceMul, reduceSub, ↓reduceIte, eq_self, t5, c1]))
 refine ((foldC h bm L rev comp v md (fun c e => sl_lt md.sl c e) rev hs hz).call P).mono P ?_
 rintro en h1 ⟨o1, g1⟩
 have x1 := o1.1.1
 have eno := g1.one
 have enl := g1.slice.len (P := P) u44a
 obtain ⟨l, hl⟩ : ∃ l, l = foldS rev L := ⟨_, rfl⟩
 have vok : VOk (vw L):= by rw [← atV_vw hmn]; exact atV_ok hs
 have hlv : l = inV (vw L) [] [0]:= by rw [hl]; unfold foldS; rw [atV_vw hmn]
 rw [← hl] at g1 enl
 have hzl : l.length ≤ 1000000:= by rw [hl]; exact Nat.le_trans (foldS_len hs) hz
 have rise : Rise l:= by rw [hlv]; exact inV_rise vok _ _
 have hlW : l.length = W.length:= by rw [hlv, inV_all_len, al.len]
 have hkv : ∀ x, x ∈ l → getKV x.key W = x := fun x hx => by
  rw [hlv] at hx
  obtain ⟨k, hk, -, e⟩ := (inV_mem [] [0] x).1 hx
  have := getKV_key vok hk
  rw [e, this, al.get]
 have gs := g1.slice
 repeat' (first | ((with_reducible refine st1 ?_); (conv => whnf); (with_reducible refine ⟨?_⟩)) | ((with_reducible refine retW_intro rfl ?_); (conv => arg 2; whnf)) | ((with_reducible first | refine iB ?_ ?_ | refine gWt ?_ ?_ | refine gWf ?_ ?_) <;> intro hb <;> (try simp only [hb])) | (simp only [B, xB, F, reduceLT, reduceLeDiff, reduceEqDiff, reduceAdd, reduceMul, reduceSub, ↓reduceIte, eq_self, eno]))
 refine st_loop (fun m ds tm h' => ∃ i, EnL h1 r bm main recs tv ev en l.length m ds tm h' i) l.length rfl ⟨0, rfl, rfl, Nat.zero_le _, ⟨by simp only [B, xB, F, reduceLT, reduceLeDiff, reduceEqDiff, reduceAdd, reduceMul, reduceSub, ↓reduceIte, eq_self, t5], by simp only [B, xB, F, reduceLT, reduceLeDiff, reduceEqDiff, reduceAdd, reduceMul, reduceSub, ↓reduceIte, eq_self, t8], by simp only [B, xB, F, reduceLT, reduceLeDiff, reduceEqDiff, reduceAdd, reduceMul, reduceSub, ↓reduceIte, eq_self, t9], by simp only [B, xB, F, reduceLT, reduceLeDiff, reduceEqDiff, reduceAdd, reduceMul, reduceSub, ↓reduceIte, eq_self, t10]⟩, by simp only [B, xB, F, reduceLT, reduceLeDiff, reduceEqDiff, reduceAdd, reduceMul, reduceSub, ↓reduceIte, eq_self, u14], by simp only [B, xB, F, reduceLT, reduceLeDiff, reduceEqDiff, reduceAdd, reduceMul, reduceSub, ↓reduceIte, eq_self, u16], by simp only [B, xB, F, reduceLT, reduceLeDiff, reduceEqDiff, reduceAdd, reduceMul, reduceSub, ↓reduceIte, eq_self], by simp only [B, xB, F, reduceLT, reduceLeDiff, reduceEqDiff, reduceAdd, reduceMul, reduceSub, ↓reduceIte, eq_self], (Og.refl _ _)⟩ (fun m ds tm h' hI => ?_)
 clear t5 t8 t9 t10 u14 u16
 obtain ⟨i, rfl, rfl, ii, ⟨t5, t8, t9, t10⟩, t14, t16, t19, t20, oo⟩ := hI
 have xo := oo.1.1
 have mph := (mp.keep o1.1 (by simp)).keep oo.1 (by simp)
 by_cases hi : i < l.length
 ·have di : decide (i < l.length) = true := decide_eq_true hi
  have lt1 : (i < l.length) = True:= by simp [hi]
  obtain ⟨x, hx⟩ : ∃ x, l[i]? = some x := ⟨_, List.getElem?_eq_getElem hi⟩
  have gsh := SliceAt.only oo.1 gs (fun _ _ => by simp)
  obtain ⟨bv, ov, cv, rfl, hbv, -⟩ := gsh.place (by omega)
  obtain ⟨q0, q1, q2, q3, q4⟩ := KV.at gsh hx
  have w1 : wrapF .i64 (Int.ofNat i + Int.ofNat 1) = Int.ofNat (i + 1) := i64_add (by omega)
  have lk := kvs_look mph x.key x (hkv x (List.mem_of_getElem? hx))
  have e1 := eqS_self x.key
  have e2 := eqS_self x.val
  have e3 : decide (x.cre = x.cre) = true := decide_eq_true rfl
  have e4 : decide (x.mod = x.mod) = true := decide_eq_true rfl
  have e5 : decide (x.ver = x.ver) = true := decide_eq_true rfl
  by_cases i0 : 0 < i
  ·have d0 : decide (0 < i) = true := decide_eq_true i0
   have ws : wrapF .i64 (Int.ofNat i - Int.ofNat 1) = Int.ofNat (i - 1) := i64_sub (by omega) (by omega)
   have lt2 : (i - 1 < l.length) = True:= by simp; omega
   obtain ⟨y, hy⟩ : ∃ y, l[i - 1]? = some y := ⟨_, List.getElem?_eq_getElem (by omega)⟩
   obtain ⟨p0, p1, p2, p3, p4⟩ := KV.at gsh hy
   have hlt : listLtB y.key x.key = true := by
    rw [ltN_iff]
    have hp := List.pairwise_iff_getElem.1 rise (i - 1) i (by omega) hi (by omega)
    have e1 : l[i - 1]'(by omega) = y:= by rw [List.getElem?_eq_getElem (by omega)] at hy; exact Option.some.inj hy
    have e2 : l[i] = x:= by rw [List.getElem?_eq_getElem hi] at hx; exact Option.some.inj hx
    rw [e1, e2] at hp; exact hp
   repeat' (first | ((with_reducible refine st1 ?_); (conv => whnf); (with_reducible refine ⟨?_⟩)) | ((with_reducible refine st_dw ?_ rfl rfl ?_ ?_); exact rfl; kernel_rfl; (conv => arg 5; whnf); (conv => arg 3; whnf)) | ((with_reducible refine retW_intro rfl ?_); (conv => arg 2; whnf)) | ((with_reducible first | refine iB ?_ ?_ | refine gWt ?_ ?_ | refine gWf ?_ ?_ | refine gXt ?_ ?_ | refine gXf ?_ ?_) <;> intro hb <;> (try simp only [hb])) | ((with_reducible show drawI _ _ _ _ _ _ _ _ _); first | ((with_reducible refine kI_rd ?_ ?_); exact rfl) | ((with_reducible apply kI_rg); exact rfl; exact rfl) | ((with_reducible refine kI_cv ?_ ?_ ?_); exact rfl; kernel_rfl) | ((with_reducible apply kI_al); exact rfl; exact rfl) | ((with_reducible refine kI_ex ?_ ?_ ?_ ?_ ?_); exact rfl; kernel_rfl; exact rfl) | ((with_reducible apply kI_eg); exact rfl; kernel_rfl; exact rfl) | ((with_reducible refine kI_nl ?_ ?_))) | ((with_reducible show eOk _ _ _ _ _ _); first | (exact eok_nil) | (refine ke_rd ?_ ?_ ?_; exact rfl) | (apply ke_rg; exact rfl; exact rfl) | (refine ke_cv ?_ ?_ ?_ ?_; exact rfl; kernel_rfl) | (apply ke_fl; exact rfl) | (apply ke_al; exact rfl; exact rfl)) | ((with_reducible refine freshIs_new ?_); kernel_rfl) | (simp only [B, xB, F, reduceLT, reduceLeDiff, reduceEqDiff, reduceAdd, reduceMul, reduceSub, ↓reduceIte, eq_self, t5, t8, t9, t10, t14, t16, t19, t20, enl, eno, di, lt1, q0, q1, q2, q3, q4, @ex_lookup, lk, e1, e2, e3, e4, e5, d0, ws, lt2, p0, b_geqS, hlt, w1, Bool.not_true]))
   exact ⟨l.length - (i + 1), by omega, i + 1, rfl, rfl, by omega, ⟨by simp only [B, xB, F, reduceLT, reduceLeDiff, reduceEqDiff, reduceAdd, reduceMul, reduceSub, ↓reduceIte, eq_self, t5], by simp only [B, xB, F, reduceLT, reduceLeDiff, reduceEqDiff, reduceAdd, reduceMul, reduceSub, ↓reduceIte, eq_self, t8], by simp only [B, xB, F, reduceLT, reduceLeDiff, reduceEqDiff, reduceAdd, reduceMul, reduceSub, ↓reduceIte, eq_self, t9], by simp only [B, xB, F, reduceLT, reduceLeDiff, reduceEqDiff, reduceAdd, reduceMul, reduceSub, ↓reduceIte, eq_self, t10]⟩, by simp only [B, xB, F, reduceLT, reduceLeDiff, reduceEqDiff, reduceAdd, reduceMul, reduceSub, ↓reduceIte, eq_self, t14], by simp only [B, xB, F, reduceLT, reduceLeDiff, reduceEqDiff, reduceAdd, reduceMul, reduceSub, ↓reduceIte, eq_self, t16], by simp only [B, xB, F, reduceLT, reduceLeDiff, reduceEqDiff, reduceAdd, reduceMul, reduceSub, ↓reduceIte, eq_self, t19], by simp only [B, xB, F, reduceLT, reduceLeDiff, reduceEqDiff, reduceAdd, reduceMul, reduceSub, ↓reduceIte, eq_self], oo⟩
  ·have d0 : decide (0 < i) = false := decide_eq_false i0
   repeat' (first | ((with_reducible refine st1 ?_); (conv => whnf); (with_reducible refine ⟨?_⟩)) | ((with_reducible refine st_dw ?_ rfl rfl ?_ ?_); exact rfl; kernel_rfl; (conv => arg 5; whnf); (conv => arg 3; whnf)) | ((with_reducible refine retW_intro rfl ?_); (conv => arg 2; whnf)) | ((with_reducible first | refine iB ?_ ?_ | refine gWt ?_ ?_ | refine gWf ?_ ?_ | refine gXt ?_ ?_ | refine gXf ?_ ?_) <;> intro hb <;> (try simp only [hb])) | ((with_reducible show drawI _ _ _ _ _ _ _ _ _); first | ((with_reducible refine kI_rd ?_ ?_); exact rfl) | ((with_reducible apply kI_rg); exact rfl; exact rfl) | ((with_reducible refine kI_cv ?_ ?_ ?_); exact rfl; kernel_rfl) | ((with_reducible apply kI_al); exact rfl; exact rfl) | ((with_reducible refine kI_ex ?_ ?_ ?_ ?_ ?_); exact rfl; kernel_rfl; exact rfl) | ((with_reducible apply kI_eg); exact rfl; kernel_rfl; exact rfl) | ((with_reducible refine kI_nl ?_ ?_))) | ((with_reducible show eOk _ _ _ _ _ _); first | (exact eok_nil) | (refine ke_rd ?_ ?_ ?_; exact rfl) | (apply ke_rg; exact rfl; exact rfl) | (refine ke_cv ?_ ?_ ?_ ?_; exact rfl; kernel_rfl) | (apply ke_fl; exact rfl) | (apply ke_al; exact rfl; exact rfl)) | ((with_reducible refine freshIs_new ?_); kernel_rfl) | (simp only [B, xB, F, reduceLT, reduceLeDiff, reduceEqDiff, reduceAdd, reduceMul, reduceSub, ↓reduceIte, eq_self, t5, t8, t9, t10, t14, t16, t19, t20, enl, eno, di, lt1, q0, q1, q2, q3, q4, @ex_lookup, lk, e1, e2, e3, e4, e5, d0, w1, Bool.not_true]))
   exact ⟨l.length - (i + 1), by omega, i + 1, rfl, rfl, by omega, ⟨by simp only [B, xB, F, reduceLT, reduceLeDiff, reduceEqDiff, reduceAdd, reduceMul, reduceSub, ↓reduceIte, eq_self, t5], by simp only [B, xB, F, reduceLT, reduceLeDiff, reduceEqDiff, reduceAdd, reduceMul, reduceSub, ↓reduceIte, eq_self, t8], by simp only [B, xB, F, reduceLT, reduceLeDiff, reduceEqDiff, reduceAdd, reduceMul, reduceSub, ↓reduceIte, eq_self, t9], by simp only [B, xB, F, reduceLT, reduceLeDiff, reduceEqDiff, reduceAdd, reduceMul, reduceSub, ↓reduceIte, eq_self, t10]⟩, by simp only [B, xB, F, reduceLT, reduceLeDiff, reduceEqDiff, reduceAdd, reduceMul, reduceSub, ↓reduceIte, eq_self, t14], by simp only [B, xB, F, reduceLT, reduceLeDiff, reduceEqDiff, reduceAdd, reduceMul, reduceSub, ↓reduceIte, eq_self, t16], by simp only [B, xB, F, reduceLT, reduceLeDiff, reduceEqDiff, reduceAdd, reduceMul, reduceSub, ↓reduceIte, eq_self, t19], by simp only [B, xB, F, reduceLT, reduceLeDiff, reduceEqDiff, reduceAdd, reduceMul, reduceSub, ↓reduceIte, eq_self], oo⟩
 ·have di : decide (i < l.length) = false := decide_eq_false hi
  have hlr := md.sl.len (P := P) u45a
  have vo := sl_one md.sl
  have hle := es.len (P := P) u56a
  have hlm := fun (h' : H) (m : MapK encS h' r (mN W)) => len_k (P := P) u53a m [] []
  have lm := hlm h' mph
  have lmn : (mN W).length = W.length:= by unfold mN; rw [List.length_map]
  rw [lmn] at lm
  have oo2 := o1.t oo
  have c0 := kc md.c0 oo2 lbm (by simp)
  have ws : wrapF .i64 (Int.ofNat L.length - Int.ofNat recs) = Int.ofNat (L.length - recs) := i64_sub hrc (by omega)
  have d1 : decide (l.length = W.length) = true := decide_eq_true hlW
  have d2 : decide (E.length = L.length - recs) = true := decide_eq_true hE
  repeat' (first | ((with_reducible refine st1 ?_); (conv => whnf); (with_reducible refine ⟨?_⟩)) | ((with_reducible refine retW_intro rfl ?_); (conv => arg 2; whnf)) | ((with_reducible first | refine iB ?_ ?_ | refine gWt ?_ ?_ | refine gWf ?_ ?_) <;> intro hb <;> (try simp only [hb])) | (simp only [B, xB, F, reduceLT, reduceLeDiff, reduceEqDiff, reduceAdd, reduceMul, reduceSub, ↓reduceIte, eq_self, t5, t10, t14, t16, t19, t20, enl, eno, di, hlr, vo, hle, evo, lm, c0, ws, d1, d2]))
end
end Go.Proofs.Ytnedigoajoflaaa.M

namespace Go.Proofs.Ytnedigoajoflaaa.M
open Go Go.AX
noncomputable section
set_option maxRecDepth 100000
theorem evs_prev : ∀ (L1 : List Rec) (W V : View), Alike W V → (∀ i x, (evs V L1)[i]? = some x → getKV x.kv.key (((evs V L1).take i).foldl layE W) = x.prev) ∧ Alike ((evs V L1).foldl layE W) (L1.foldl layV V)
 | [], W, V, a => ⟨fun i x h => by simp [evs] at h, a⟩
 | r :: L1, W, V, a => by
  have ih := evs_prev L1 (layE W (evOf V r)) (layV V r) (a.lay V r)
  refine ⟨fun i x h => ?_, ih.2⟩
  cases i with
  | zero =>
   have h : evOf V r = x:= by simpa [evs] using h
   subst h
   exact a.get _
  | succ i =>
   have h : (evs (layV V r) L1)[i]? = some x:= by simpa [evs] using h
   exact ih.1 i x h
set_option maxHeartbeats 4000000 in
theorem staysRest (h : H) (bm rev comp n main : Nat) (v tv : AV) (L L0 L1 : List Rec) (md : MdAt h bm L rev comp v) (ok : MOk n rev L) (hn : n ≤ 246) (hh : HOk L) (hrev : rev ≤ 1000000) (th : Then rev L main L0 L1) (ts : SliceAt h tv (foldS main L0).length ((foldS main L0).flatMap KV.cs)) (tm : T AV) (t : SyT tm bm main L0.length tv) :
  codeW P 4 242 none (codeI (bodyC Try.f4) [1, 1, 1, 1, 1, 1, 1, 1, 1, 1]) [] tm h (retK P Try.f4 fun v _ => v = .bool true) := by
 obtain ⟨t5, t8, t9, t10⟩ := t
 have hs := ok.sz.sh
 have hz : L.length ≤ 1000000:= by have := ok.sz.ln; omega
 have hlen0 : L0.length ≤ L.length:= by rw [th.e, List.length_append]; omega
 have hs0 : Short L0 := fun r hr => hs r (by rw [th.e]; exact List.mem_append_left _ hr)
 have c0 := md.c0
 have lbm := md.lt
 have hlr := md.sl.len (P := P) u45a
 have vo := sl_one md.sl
 have tvo := sl_one ts
 have d0 : decide (L.length < L0.length) = false := decide_eq_false (by omega)
 have nv : ∀ c, blkOf v = some c → c < h.nx := fun c e => sl_lt md.sl c e
 have hfe : foldS main L = foldS main L0:= by unfold foldS; rw [th.e, atV_old th.l1]
 repeat' (first | ((with_reducible refine st1 ?_); (conv => whnf); (with_reducible refine ⟨?_⟩)) | ((with_reducible refine retW_intro rfl ?_); (conv => arg 2; whnf)) | ((with_reducible first | refine iB ?_ ?_ | refine gWt ?_ ?_ | refine gWf ?_ ?_) <;> intro hb <;> (try simp only [hb])) | (simp only [B, xB, F, reduceLT, reduceLeDiff, reduceEqDiff, reduceAdd, reduceMul, reduceSub, ↓reduceIte, eq_self, t5, t8, t9, t10, c0, hlr, vo, d0]))
 refine ((foldC h bm L rev comp v md nv main hs hz).call P).mono P ?_
 rintro w1 h1 ⟨o1, g1⟩
 have x1 := o1.1.1
 have w1o := g1.one
 rw [hfe] at g1
 have hz0 : (foldS main L0).length ≤ 1000000 := Nat.le_trans (foldS_len hs0) (by omega)
 have ts1 := SliceAt.only o1.1 ts (fun _ _ => by simp)
 repeat' (first | ((with_reducible refine st1 ?_); (conv => whnf); (with_reducible refine ⟨?_⟩)) | ((with_reducible refine retW_intro rfl ?_); (conv => arg 2; whnf)) | ((with_reducible first | refine iB ?_ ?_ | refine gWt ?_ ?_ | refine gWf ?_ ?_) <;> intro hb <;> (try simp only [hb])) | (simp only [B, xB, F, reduceLT, reduceLeDiff, reduceEqDiff, reduceAdd, reduceMul, reduceSub, ↓reduceIte, eq_self, t8, tvo, w1o]))
 refine ((sameKVs h1 w1 tv (foldS main L0) g1.slice ts1 hz0).call P).mono P ?_
 rintro _ h2 ⟨rfl, o2⟩
 have o12 := o1.t o2
 have x12 := o12.1.1
 repeat' (first | (with_reducible refine stopC [1, 1, 1, 1, 1, 1, 1, 1, 1, 1, 1] ?_) | ((with_reducible refine st1 ?_); (conv => whnf); (with_reducible refine ⟨?_⟩)) | ((with_reducible refine retW_intro rfl ?_); (conv => arg 2; whnf)) | ((with_reducible first | refine iB ?_ ?_ | refine gWt ?_ ?_ | refine gWf ?_ ?_) <;> intro hb <;> (try simp only [hb])) | (simp only [B, xB, F, reduceLT, reduceLeDiff, reduceEqDiff, reduceAdd, reduceMul, reduceSub, ↓reduceIte, eq_self, Bool.not_true]))
 have ts2 := SliceAt.only o12.1 ts (fun _ _ => by simp)
 have vok0 : VOk (vw L0):= by rw [← atV_vw th.l0]; exact atV_ok hs0
 have hfi : foldS main L0 = inV (vw L0) [] [0]:= by unfold foldS; rw [atV_vw th.l0]
 refine ⟨staysFill h2 bm main L0.length tv (foldS main L0) (by rw [hfi]; exact inV_rise vok0 _ _) hz0 ts2 _ ⟨by simp only [B, xB, F, reduceLT, reduceLeDiff, reduceEqDiff, reduceAdd, reduceMul, reduceSub, ↓reduceIte, eq_self, t5], by simp only [B, xB, F, reduceLT, reduceLeDiff, reduceEqDiff, reduceAdd, reduceMul, reduceSub, ↓reduceIte, eq_self, t8], by simp only [B, xB, F, reduceLT, reduceLeDiff, reduceEqDiff, reduceAdd, reduceMul, reduceSub, ↓reduceIte, eq_self, t9], by simp only [B, xB, F, reduceLT, reduceLeDiff, reduceEqDiff, reduceAdd, reduceMul, reduceSub, ↓reduceIte, eq_self, t10]⟩ _ ?_⟩
 intro tm3 h3 r ⟨u5, u8, u9, u10⟩ u14 mp hr3 o3
 have o13 := o12.t o3
 have md3 : MdAt h3 bm L rev comp v := md.keep o13.1.1 (o13.1.2 bm lbm (by simp)) (fun c e => o13.1.2 c (nv c e) (by simp))
 have c13 := md3.c1
 have wm : wrapF .u64 (Int.ofNat main + Int.ofNat 1) = Int.ofNat (main + 1) := u64_add (by have := th.le; omega)
 have x13 := o13.1.1
 repeat' (first | ((with_reducible refine st1 ?_); (conv => whnf); (with_reducible refine ⟨?_⟩)) | ((with_reducible refine retW_intro rfl ?_); (conv => arg 2; whnf)) | ((with_reducible first | refine iB ?_ ?_ | refine gWt ?_ ?_ | refine gWf ?_ ?_) <;> intro hb <;> (try simp only [hb])) | (simp only [B, xB, F, reduceLT, reduceLeDiff, reduceEqDiff, reduceAdd, reduceMul, reduceSub, ↓reduceIte, eq_self, u5, u9, wm, c13]))
 refine ((eventsC h3 bm L rev comp v md3 (fun c e => sl_lt md3.sl c e) (main + 1) rev [] [0] hz).call P).mono P ?_
 rintro ev h4 ⟨o4, g4⟩
 have x4 := o4.1.1
 have evo := g4.one
 have hout : (evF (main + 1) rev [] [0] L).out = evs (vw L0) L1 := by
  rw [th.e]
  exact evF_out (by rw [← th.e]; exact hh) (by rw [← th.e]; exact ok.mn) th.l0 th.l1
 rw [hout] at g4
 have al0 : Alike (ofKVs (foldS main L0)) (vw L0):= by rw [hfi]; exact alike_inV vok0
 obtain ⟨hE, al⟩ := evs_prev L1 _ _ al0
 have hEl : (evs (vw L0) L1).length = L.length - L0.length:= by rw [evs_len, th.e, List.length_append]; omega
 have lr3 := mp.lt
 repeat' (first | (with_reducible refine stopC [1, 1, 1, 1, 1, 1, 1, 1, 1, 1, 1, 1, 1, 1] ?_) | ((with_reducible refine st1 ?_); (conv => whnf); (with_reducible refine ⟨?_⟩)) | ((with_reducible refine retW_intro rfl ?_); (conv => arg 2; whnf)) | ((with_reducible first | refine iB ?_ ?_ | refine gWt ?_ ?_ | refine gWf ?_ ?_) <;> intro hb <;> (try simp only [hb])) | (simp only [B, xB, F, reduceLT, reduceLeDiff, reduceEqDiff, reduceAdd, reduceMul, reduceSub, ↓reduceIte, eq_self, evo]))
 refine ⟨staysEv h4 r bm main L0.length tv ev (evs (vw L0) L1) (ofKVs (foldS main L0)) (by rw [hEl]; omega) hE g4.slice (fun c e => by have := (g4.base e).1; omega) (mp.keep o4.1 (by simp)) _ ⟨by simp only [B, xB, F, reduceLT, reduceLeDiff, reduceEqDiff, reduceAdd, reduceMul, reduceSub, ↓reduceIte, eq_self, u5], by simp only [B, xB, F, reduceLT, reduceLeDiff, reduceEqDiff, reduceAdd, reduceMul, reduceSub, ↓reduceIte, eq_self, u8], by simp only [B, xB, F, reduceLT, reduceLeDiff, reduceEqDiff, reduceAdd, reduceMul, reduceSub, ↓reduceIte, eq_self, u9], by simp only [B, xB, F, reduceLT, reduceLeDiff, reduceEqDiff, reduceAdd, reduceMul, reduceSub, ↓reduceIte, eq_self, u10]⟩ (by simp only [B, xB, F, reduceLT, reduceLeDiff, reduceEqDiff, reduceAdd, reduceMul, reduceSub, ↓reduceIte, eq_self, u14]) (by simp only [B, xB, F, reduceLT, reduceLeDiff, reduceEqDiff, reduceAdd, reduceMul, reduceSub, ↓reduceIte, eq_self]) _ ?_⟩
 intro tm5 h5 u u14' u16' mp5 o5
 have md5 : MdAt h5 bm L rev comp v := md3.keep (Nat.le_trans o4.1.1 o5.1.1) (by have := md3.lt; rw [o5.1.2 bm (by omega) (by simp; omega), o4.1.2 bm this (by simp)]) (fun c e => by have := nv c e; rw [o5.1.2 c (by omega) (by simp; omega), o4.1.2 c (by omega) (by simp)])
 have es5 : SliceAt h5 ev (evs (vw L0) L1).length ((evs (vw L0) L1).flatMap Ev.cs) := g4.slice.move o5.1.1 (fun c e => o5.1.2 c (g4.base e).2 (by have := (g4.base e).1; simp; omega))
 have hvw : L1.foldl layV (vw L0) = vw L:= by rw [th.e]; unfold vw; rw [List.foldl_append]
 rw [hvw] at al
 exact staysEnd h5 r bm main L0.length rev comp tv ev v (evs (vw L0) L1) _ L md5 hs hz (by rw [hEl]; omega) es5 mp5 ok.mn al hEl hlen0 tm5 u u14' u16'
end
end Go.Proofs.Ytnedigoajoflaaa.M

namespace Go.Proofs.Ytnedigoajoflaaa.M
open Go Go.AX
noncomputable section
set_option maxRecDepth 100000
theorem works12 : yes (callA P sortedK 100000 12 [] ⟨.e, 0, 0⟩) = true:= by kernel_rfl
theorem known12 : KnownOk P 12 (.bool true) := fun w =>
 (calls_true sortedK_ok works12 w).mono fun e w' h => ⟨fun _ => none, .bool true, h.1, by simp, h.2⟩
theorem worksC (h : H) : CallC P (.enter 12 [] h) (SaysG h (.bool true)) :=
 CallC.of_hook P (knownHook_ok (by kernel_rfl) known12) (v := .bool true) (h' := h) rfl ⟨rfl, Og.refl _ _⟩
end
end Go.Proofs.Ytnedigoajoflaaa.M

namespace Go.Proofs.Ytnedigoajoflaaa.M
open Go Go.AX
noncomputable section
set_option maxRecDepth 100000
theorem u43a : P.underlying 43 = some (.slice 51):= by kernel_rfl
theorem Sm.len (x : Sm) : x.cs.length = 4 := rfl
theorem Sm.at {h : H} {b o n : Nat} {cap : Cap} {l : List Sm} (sl : SliceAt h (.slice b o n cap) n (l.flatMap Sm.cs)) {i : Nat} {x : Sm} (hx : l[i]? = some x) : cellAt h b (o + i * 4) = some (.int .u8 (.ofNat x.what)) ∧ cellAt h b (o + (i * 4 + 1)) = some (.int .u8 (.ofNat x.a)) ∧ cellAt h b (o + (i * 4 + 2)) = some (.int .u8 (.ofNat x.b)) ∧ cellAt h b (o + (i * 4 + 3)) = some (.int .u8 (.ofNat x.n)) := by
 have g : ∀ k, k < 4 → cellAt h b (o + (i * 4 + k)) = x.cs[k]? := fun k hk => cells_at Sm.len sl hx hk
 exact ⟨g 0 (by omega), g 1 (by omega), g 2 (by omega), g 3 (by omega)⟩
theorem ansBox4 (h : H) (err rev comp : Nat) (tk : Bool) (rs : AV) : ∃ h1, (h.newCells 38 [.int .i64 (.ofNat 0), .int .u64 (.ofNat 0), .int .u64 (.ofNat 0), .bool false, .nilslice, .int .u32 (.ofNat 0), .int .u64 (.ofNat 0), .int .u64 (.ofNat 0), .int .i64 (.ofNat 0)]).sts h.nx 0 (ansC err rev comp tk rs) = h1 ∧ Og h h1 [] ∧ h1.nx = h.nx + 1 ∧ CellsAt h1 h.nx 0 (ansC err rev comp tk rs) :=
 ⟨_, rfl, ((Og.refl _ _).new _ _).sts (.inr (Nat.le_refl _)), by rw [nx_sts, nx_new], CellsAt.box _ _ _ _⟩
structure MlH (h0 h : H) (bm n rev comp : Nat) (L : List Rec) (v : AV) : Prop where
 md : MdAt h bm L rev comp v
 gv : Grows 8 0 h v L.length (L.flatMap Rec.cs)
 nv : ∀ c, blkOf v = some c → c ≠ bm
 l0 : h0.nx ≤ bm
 ok : MOk n rev L
 hh : HOk L
 oo : Og h0 h []
def MlP (h : H) (bm i k rev : Nat) (L : List Rec) (tm : T AV) : Prop :=
 (i ≤ k ∧ tm.get 8 = some .nilslice ∧ tm.get 9 = some (.int .u64 (.ofNat 1)) ∧ tm.get 10 = some (.int .i64 (.ofNat 0))) ∨
 (k < i ∧ ∃ main L0 L1 tv, Then rev L main L0 L1 ∧ SliceAt h tv (foldS main L0).length ((foldS main L0).flatMap KV.cs) ∧ tm.get 8 = some tv ∧ tm.get 9 = some (.int .u64 (.ofNat main)) ∧ tm.get 10 = some (.int .i64 (.ofNat L0.length)) ∧ ∀ c, blkOf tv = some c → c ≠ bm)
structure MlI (h0 : H) (va : AV) (n k bm : Nat) (m : Nat) (ds : List Nat) (tm : T AV) (h : H) (i : Nat) (L : List Rec) (rev comp : Nat) (v : AV) : Prop where
 ds : ds = []
 nn : m = n - i
 ii : i ≤ n
 t0 : tm.get 0 = some va
 t5 : tm.get 5 = some (.ptr bm 0)
 t6 : tm.get 6 = some (.int .i64 (.ofNat n))
 t7 : tm.get 7 = some (.int .i64 (.ofNat k))
 t11 : tm.get 11 = some (.int .i64 (.ofNat i))
 rv : rev ≤ i + 1
 hh : MlH h0 h bm (6 * i) rev comp L v
 ph : MlP h bm i k rev L tm
theorem MlH.keep {h0 h h' : H} {bm n rev comp : Nat} {L : List Rec} {v : AV} (w : MlH h0 h bm n rev comp L v) (o : Og h h' []) : MlH h0 h' bm n rev comp L v :=
 ⟨w.md.keep o.1.1 (o.1.2 bm w.md.lt (by simp)) (fun c e => o.1.2 c (w.gv.base e).2 (by simp)), w.gv.of_get o.1.1 (fun c e => o.1.2 c (w.gv.base e).2 (by simp)), w.nv, w.l0, w.ok, w.hh, w.oo.t o⟩
theorem hok0 : HOk [] := ⟨List.Pairwise.nil, List.Pairwise.nil⟩
theorem mok00 : MOk 0 1 [] := ⟨⟨fun r h => (by cases h), Nat.le_refl _, Nat.le_refl _⟩, fun x h => (by cases h)⟩
set_option maxHeartbeats 8000000 in
theorem staysOne (h0 : H) (va : AV) (l : List Sm) (sl : SliceAt h0 va l.length (l.flatMap Sm.cs)) (hl : ∀ x, x ∈ l → x.n < 256) (n k bm i rev comp : Nat) (v : AV) (L : List Rec) (hi : i < n) (n40 : n ≤ 40) (nl : n ≤ l.length) (tm : T AV) (h : H) (hh : MlH h0 h bm (6 * i) rev comp L v) (rv : rev ≤ i + 1) (ph : MlP h bm (i + 1) k rev L tm)
  (t0 : tm.get 0 = some va) (t5 : tm.get 5 = some (.ptr bm 0)) (t6 : tm.get 6 = some (.int .i64 (.ofNat n))) (t7 : tm.get 7 = some (.int .i64 (.ofNat k))) (t11 : tm.get 11 = some (.int .i64 (.ofNat i))) (K : KQ)
  (hK : ∀ tm' h' L' rev' comp' v', MlH h0 h' bm (6 * i + 6) rev' comp' L' v' → rev' ≤ i + 2 → MlP h' bm (i + 1) k rev' L' tm' → tm'.get 0 = some va → tm'.get 5 = some (.ptr bm 0) → tm'.get 6 = some (.int .i64 (.ofNat n)) → tm'.get 7 = some (.int .i64 (.ofNat k)) → tm'.get 11 = some (.int .i64 (.ofNat i)) → K .norm [] tm' h') :
  codeW P 4 242 none (codeI (bodyC Try.f4) [1, 0, 0, 1, 0, 0, 1, 0, 1, 1, 1, 1, 1, 1, 1, 1]) [] tm h K := by
 have lbm := hh.md.lt
 have c1 := hh.md.c1
 have x0 := hh.oo.1.1
 have slh := SliceAt.only hh.oo.1 sl (fun _ _ => by simp)
 have il : i < l.length:= by omega
 have lt1 : (i < l.length) = True:= by simp [il]
 obtain ⟨x, hx⟩ : ∃ x, l[i]? = some x := ⟨_, List.getElem?_eq_getElem il⟩
 obtain ⟨bv, ov, cv, rfl, hbv, -⟩ := slh.place (by omega)
 obtain ⟨q0, q1, q2, q3⟩ := Sm.at slh hx
 have hrq := reqC h x (hl x (List.mem_of_getElem? hx))
 unfold Sm.cs at hrq
 repeat' (first | ((with_reducible refine st1 ?_); (conv => whnf); (with_reducible refine ⟨?_⟩)) | ((with_reducible refine retW_intro rfl ?_); (conv => arg 2; whnf)) | ((with_reducible first | refine iB ?_ ?_ | refine gWt ?_ ?_ | refine gWf ?_ ?_) <;> intro hb <;> (try simp only [hb])) | (simp only [B, xB, F, reduceLT, reduceLeDiff, reduceEqDiff, reduceAdd, reduceMul, reduceSub, ↓reduceIte, eq_self, t0, t5, t11, c1, lt1, q0, q1, q2, q3]))
 refine (hrq.call P).mono P ?_
 rintro _ h3 ⟨vc, vt, ve, rfl, o3, ra⟩
 have oc := sl_one ra.sc
 have ot := sl_one ra.st
 have oe := sl_one ra.se
 have H3 := hh.keep o3
 obtain ⟨a, hA⟩ : ∃ a, a = applyS rev comp L (reqS x) := ⟨_, rfl⟩
 obtain ⟨aok, ahh, arev, arev1, aR⟩ := apply_h hh.ok hh.hh (by omega) x a hA
 have hzL : L.length ≤ 200000:= by have := hh.ok.sz.ln; omega
 have hap := applyC h3 bm L rev comp v H3.md H3.gv H3.nv (reqS x) vc vt ve ra hh.ok.mn (by omega) hh.ok.sz.sh hzL (fun tk j hj => by
  have := hh.ok.hB (by omega) (reqS x) tk j (by rw [cut_reqS]; exact hj)
  rwa [cut_reqS] at this)
 rw [← hA] at hap
 unfold Rq.cs at hap
 unfold Rq.cs
 repeat' (first | ((with_reducible refine st1 ?_); (conv => whnf); (with_reducible refine ⟨?_⟩)) | ((with_reducible refine retW_intro rfl ?_); (conv => arg 2; whnf)) | ((with_reducible first | refine iB ?_ ?_ | refine gWt ?_ ?_ | refine gWf ?_ ?_) <;> intro hb <;> (try simp only [hb])) | (simp only [B, xB, F, reduceLT, reduceLeDiff, reduceEqDiff, reduceAdd, reduceMul, reduceSub, ↓reduceIte, eq_self, oc, ot, oe]))
 refine (hap.call P).mono P ?_
 rintro _ h4 ⟨xs, rx, v1, hv, hxs, kx, md4, gv4, oo4, nv4, vb4, rb4, xb4⟩
 subst hv
 have x3 := o3.1.1
 have x4 := oo4.1.1
 have rxo := sl_one kx.gr
 obtain ⟨h5, h5e, o5, x5, Y5⟩ := ansBox4 h4 a.err a.rev a.comp a.tk rx
 unfold ansC at h5e
 unfold ansC
 obtain ⟨y0, y1, y2, y3, y4, y5, y6, y7, y8⟩ := CellsAt.u9 (show CellsAt h5 h4.nx 0 [.int .i64 (.ofNat a.err), .int .u64 (.ofNat a.rev), .int .u64 (.ofNat a.comp), .bool a.tk, rx, .int .u32 (.ofNat 0), .int .u64 (.ofNat 0), .int .u64 (.ofNat 0), .int .i64 (.ofNat 0)] from Y5)
 have md5 := md4.keep o5.1.1 (o5.1.2 bm md4.lt (by simp)) (fun c e => o5.1.2 c (gv4.base e).2 (by simp))
 have d1 := md5.c1
 have d2 := md5.c2
 have wr1 : wrapF .u64 (Int.ofNat rev + Int.ofNat 1) = Int.ofNat (rev + 1) := u64_add (by omega)
 have e1 : decide (a.rev < rev) = false := decide_eq_false (by omega)
 have e2 : decide (rev + 1 < a.rev) = false := decide_eq_false (by omega)
 have e2' : decide (a.rev ≤ rev + 1) = true := decide_eq_true (by omega)
 repeat' (first | ((with_reducible refine st1 ?_); (conv => whnf); (with_reducible refine ⟨?_⟩)) | ((with_reducible refine st_dw ?_ rfl rfl ?_ ?_); exact rfl; kernel_rfl; (conv => arg 5; whnf); (conv => arg 3; whnf)) | ((with_reducible refine retW_intro rfl ?_); (conv => arg 2; whnf)) | ((with_reducible first | refine iB ?_ ?_ | refine gWt ?_ ?_ | refine gWf ?_ ?_ | refine gXt ?_ ?_ | refine gXf ?_ ?_) <;> intro hb <;> (try simp only [hb])) | ((with_reducible show drawI _ _ _ _ _ _ _ _ _); first | ((with_reducible refine kI_rd ?_ ?_); exact rfl) | ((with_reducible apply kI_rg); exact rfl; exact rfl) | ((with_reducible refine kI_cv ?_ ?_ ?_); exact rfl; kernel_rfl) | ((with_reducible apply kI_al); exact rfl; exact rfl) | ((with_reducible refine kI_ex ?_ ?_ ?_ ?_ ?_); exact rfl; kernel_rfl; exact rfl) | ((with_reducible apply kI_eg); exact rfl; kernel_rfl; exact rfl) | ((with_reducible refine kI_nl ?_ ?_))) | ((with_reducible show eOk _ _ _ _ _ _); first | (exact eok_nil) | (refine ke_rd ?_ ?_ ?_; exact rfl) | (apply ke_rg; exact rfl; exact rfl) | (refine ke_cv ?_ ?_ ?_ ?_; exact rfl; kernel_rfl) | (apply ke_fl; exact rfl) | (apply ke_al; exact rfl; exact rfl)) | ((with_reducible refine freshIs_new ?_); kernel_rfl) | (simp only [B, xB, F, reduceLT, reduceLeDiff, reduceEqDiff, reduceAdd, reduceMul, reduceSub, ↓reduceIte, eq_self, t5, rxo, h5e, y0, y1, y2, y3, y4, y5, y6, y7, y8, d1, d2, wr1, e1, e2, e2', Bool.not_true]))
 have k45 : ∀ c, c < h.nx → c ≠ bm → h5.t.get c = h.t.get c := fun c hc hn => by rw [o5.1.2 c (by omega) (by simp), oo4.1.2 c (by omega) (by simp [hn]), o3.1.2 c hc (by simp)]
 have gv5 : Grows 8 0 h5 v1 (L ++ a.R).length ((L ++ a.R).flatMap Rec.cs) := gv4.of_get o5.1.1 (fun c e => o5.1.2 c (gv4.base e).2 (by simp))
 have lb0 := hh.l0
 have H5 : MlH h0 h5 bm (6 * i + 6) a.rev a.comp (L ++ a.R) v1 := ⟨md5, gv5, nv4, lb0, aok, ahh, ⟨⟨by omega, fun c hc _ => by rw [k45 c (by omega) (by omega)]; exact hh.oo.1.2 c hc (by simp)⟩, by rw [o5.2, oo4.2, o3.2]; exact hh.oo.2⟩⟩
 refine hK _ h5 (L ++ a.R) a.rev a.comp v1 H5 (by omega) ?_ (by simp only [B, xB, F, reduceLT, reduceLeDiff, reduceEqDiff, reduceAdd, reduceMul, reduceSub, ↓reduceIte, eq_self, t0]) (by simp only [B, xB, F, reduceLT, reduceLeDiff, reduceEqDiff, reduceAdd, reduceMul, reduceSub, ↓reduceIte, eq_self, t5]) (by simp only [B, xB, F, reduceLT, reduceLeDiff, reduceEqDiff, reduceAdd, reduceMul, reduceSub, ↓reduceIte, eq_self, t6]) (by simp only [B, xB, F, reduceLT, reduceLeDiff, reduceEqDiff, reduceAdd, reduceMul, reduceSub, ↓reduceIte, eq_self, t7]) (by simp only [B, xB, F, reduceLT, reduceLeDiff, reduceEqDiff, reduceAdd, reduceMul, reduceSub, ↓reduceIte, eq_self, t11])
 rcases ph with ⟨p1, p8, p9, p10⟩ | ⟨p1, main, L0, L1, tv, th, ts, p8, p9, p10, pb⟩
 ·exact .inl ⟨p1, by simp only [B, xB, F, reduceLT, reduceLeDiff, reduceEqDiff, reduceAdd, reduceMul, reduceSub, ↓reduceIte, eq_self, p8], by simp only [B, xB, F, reduceLT, reduceLeDiff, reduceEqDiff, reduceAdd, reduceMul, reduceSub, ↓reduceIte, eq_self, p9], by simp only [B, xB, F, reduceLT, reduceLeDiff, reduceEqDiff, reduceAdd, reduceMul, reduceSub, ↓reduceIte, eq_self, p10]⟩
 ·exact .inr ⟨p1, main, L0, L1 ++ a.R, tv, th.next arev aR, ts.move (by omega) (fun c e => k45 c (sl_lt ts c e) (pb c e)), by simp only [B, xB, F, reduceLT, reduceLeDiff, reduceEqDiff, reduceAdd, reduceMul, reduceSub, ↓reduceIte, eq_self, p8], by simp only [B, xB, F, reduceLT, reduceLeDiff, reduceEqDiff, reduceAdd, reduceMul, reduceSub, ↓reduceIte, eq_self, p9], by simp only [B, xB, F, reduceLT, reduceLeDiff, reduceEqDiff, reduceAdd, reduceMul, reduceSub, ↓reduceIte, eq_self, p10], pb⟩
set_option maxHeartbeats 8000000 in
theorem staysC (h0 : H) (va : AV) (l : List Sm) (k0 : Nat) (sl : SliceAt h0 va l.length (l.flatMap Sm.cs)) (hl : ∀ x, x ∈ l → x.n < 256) (hk0 : k0 < 256) : codeW P 4 242 none (bodyC Try.f4) [] (T.fill .e 0 [va, .int .u8 (.ofNat k0)]) h0 (retK P Try.f4 fun v _ => v = .bool true) := by
 have hlen := sl.len (P := P) u43a
 have vo := sl_one sl
 refine codeW_root ?_
 repeat' (first | ((with_reducible refine st1 ?_); (conv => whnf); (with_reducible refine ⟨?_⟩)) | ((with_reducible refine retW_intro rfl ?_); (conv => arg 2; whnf)) | ((with_reducible first | refine iB ?_ ?_ | refine gWt ?_ ?_ | refine gWf ?_ ?_) <;> intro hb <;> (try simp only [hb])) | (simp only [B, xB, F, reduceLT, reduceLeDiff, reduceEqDiff, reduceAdd, reduceMul, reduceSub, ↓reduceIte, eq_self]))
 refine (worksC h0).mono P ?_
 rintro _ h1 ⟨rfl, o1⟩
 repeat' (first | ((with_reducible refine st1 ?_); (conv => whnf); (with_reducible refine ⟨?_⟩)) | ((with_reducible refine retW_intro rfl ?_); (conv => arg 2; whnf)) | ((with_reducible first | refine iB ?_ ?_ | refine gWt ?_ ?_ | refine gWf ?_ ?_) <;> intro hb <;> (try simp only [hb])) | (simp only [B, xB, F, reduceLT, reduceLeDiff, reduceEqDiff, reduceAdd, reduceMul, reduceSub, ↓reduceIte, eq_self, Bool.not_true]))
 refine ((newC h1).call P).mono P ?_
 rintro _ h2 ⟨rfl, o2, md2, x2⟩
 obtain ⟨n, hn⟩ : ∃ n, n = if 40 < l.length then 40 else l.length := ⟨_, rfl⟩
 have n40 : n ≤ 40:= by rw [hn]; split <;> omega
 have nl : n ≤ l.length:= by rw [hn]; split <;> omega
 have mn : (if Int.ofNat 40 < Int.ofNat l.length then Int.ofNat 40 else Int.ofNat l.length) = Int.ofNat n := by
  rw [hn]
  by_cases q : 40 < l.length
  ·rw [if_pos q]; exact if_pos (Int.ofNat_lt.2 q)
  ·rw [if_neg q]; exact if_neg (fun e => q (Int.ofNat_lt.1 e))
 have wk : wrapF .i64 (Int.ofNat k0) = Int.ofNat k0 := i64_id (by omega)
 have wn : wrapF .i64 (Int.ofNat n + Int.ofNat 1) = Int.ofNat (n + 1) := i64_add (by omega)
 have bk : ∀ h t x' y, binR P h .rem t x' y (.int .i64 (.ofNat k0)) (.int .i64 (.ofNat (n + 1))) = .val (.int .i64 (.ofNat (k0 % (n + 1)))) h := fun h t x' y => brem h t x' y .i64 k0 (n + 1) (by omega)
 obtain ⟨k, hk⟩ : ∃ k, k = k0 % (n + 1) := ⟨_, rfl⟩
 have hkn : k ≤ n:= by have := Nat.mod_lt k0 (show 0 < n + 1 by omega); omega
 rw [← hk] at bk
 have o12 := o1.t o2
 have x01 := o1.1.1
 repeat' (first | ((with_reducible refine st1 ?_); (conv => whnf); (with_reducible refine ⟨?_⟩)) | ((with_reducible refine retW_intro rfl ?_); (conv => arg 2; whnf)) | ((with_reducible first | refine iB ?_ ?_ | refine gWt ?_ ?_ | refine gWf ?_ ?_) <;> intro hb <;> (try simp only [hb])) | (simp only [B, xB, F, reduceLT, reduceLeDiff, reduceEqDiff, reduceAdd, reduceMul, reduceSub, ↓reduceIte, eq_self, hlen, vo, mn, wk, wn, bk]))
 refine st_loop (fun m ds tm h => ∃ i L rev comp v, MlI h0 va n k h1.nx m ds tm h i L rev comp v) n rfl ⟨0, [], 1, 0, .nilslice, rfl, rfl, Nat.zero_le _, by simp only [B, xB, F, reduceLT, reduceLeDiff, reduceEqDiff, reduceAdd, reduceMul, reduceSub, ↓reduceIte, eq_self], by simp only [B, xB, F, reduceLT, reduceLeDiff, reduceEqDiff, reduceAdd, reduceMul, reduceSub, ↓reduceIte, eq_self], by simp only [B, xB, F, reduceLT, reduceLeDiff, reduceEqDiff, reduceAdd, reduceMul, reduceSub, ↓reduceIte, eq_self], by simp only [B, xB, F, reduceLT, reduceLeDiff, reduceEqDiff, reduceAdd, reduceMul, reduceSub, ↓reduceIte, eq_self], by simp only [B, xB, F, reduceLT, reduceLeDiff, reduceEqDiff, reduceAdd, reduceMul, reduceSub, ↓reduceIte, eq_self], Nat.le_refl _, ⟨md2, .none, (fun c e => by cases e), x01, mok00, hok0, o12⟩, .inl ⟨Nat.zero_le _, by simp only [B, xB, F, reduceLT, reduceLeDiff, reduceEqDiff, reduceAdd, reduceMul, reduceSub, ↓reduceIte, eq_self], by simp only [B, xB, F, reduceLT, reduceLeDiff, reduceEqDiff, reduceAdd, reduceMul, reduceSub, ↓reduceIte, eq_self], by simp only [B, xB, F, reduceLT, reduceLeDiff, reduceEqDiff, reduceAdd, reduceMul, reduceSub, ↓reduceIte, eq_self]⟩⟩ (fun m ds tm h hI => ?_)
 obtain ⟨i, L, rev, comp, v, rfl, rfl, ii, t0, t5, t6, t7, t11, rv, hh, ph⟩ := hI
 have lbm := hh.md.lt
 have c0 := hh.md.c0
 have c1 := hh.md.c1
 have hlr := hh.md.sl.len (P := P) u45a
 have lvo := sl_one hh.md.sl
 have hs := hh.ok.sz.sh
 have hzL : L.length ≤ 200000:= by have := hh.ok.sz.ln; omega
 have nv' : ∀ c, blkOf v = some c → c < h.nx := fun c e => (hh.gv.base e).2
 by_cases hi : i < n
 ·have di : decide (i < n) = true := decide_eq_true hi
  by_cases hik : i = k
  ·have e : (i = k) = True := eq_true hik
   repeat' (first | ((with_reducible refine st1 ?_); (conv => whnf); (with_reducible refine ⟨?_⟩)) | ((with_reducible refine retW_intro rfl ?_); (conv => arg 2; whnf)) | ((with_reducible first | refine iB ?_ ?_ | refine gWt ?_ ?_ | refine gWf ?_ ?_) <;> intro hb <;> (try simp only [hb])) | (simp only [B, xB, F, reduceLT, reduceLeDiff, reduceEqDiff, reduceAdd, reduceMul, reduceSub, ↓reduceIte, eq_self, t0, t5, t6, t7, t11, di, e, c0, c1, hlr, lvo]))
   refine ((foldC h h1.nx L rev comp v hh.md nv' rev hs (by omega)).call P).mono P ?_
   rintro tv h3 ⟨o3, g3⟩
   have tvo := g3.one
   repeat' (first | (with_reducible refine stopC [1, 0, 0, 1, 0, 0, 1, 0, 1, 1, 1, 1, 1, 1, 1, 1] ?_) | ((with_reducible refine st1 ?_); (conv => whnf); (with_reducible refine ⟨?_⟩)) | ((with_reducible refine retW_intro rfl ?_); (conv => arg 2; whnf)) | ((with_reducible first | refine iB ?_ ?_ | refine gWt ?_ ?_ | refine gWf ?_ ?_) <;> intro hb <;> (try simp only [hb])) | (simp only [B, xB, F, reduceLT, reduceLeDiff, reduceEqDiff, reduceAdd, reduceMul, reduceSub, ↓reduceIte, eq_self, tvo]))
   refine ⟨staysOne h0 va l sl hl n k h1.nx i rev comp v L hi n40 nl _ h3 (hh.keep o3) rv (.inr ⟨by omega, rev, L, [], tv, Then.start hh.ok, g3.slice, by simp only [B, xB, F, reduceLT, reduceLeDiff, reduceEqDiff, reduceAdd, reduceMul, reduceSub, ↓reduceIte, eq_self], by simp only [B, xB, F, reduceLT, reduceLeDiff, reduceEqDiff, reduceAdd, reduceMul, reduceSub, ↓reduceIte, eq_self], by simp only [B, xB, F, reduceLT, reduceLeDiff, reduceEqDiff, reduceAdd, reduceMul, reduceSub, ↓reduceIte, eq_self], fun c e => by have := (g3.base e).1; omega⟩) (by simp only [B, xB, F, reduceLT, reduceLeDiff, reduceEqDiff, reduceAdd, reduceMul, reduceSub, ↓reduceIte, eq_self, t0]) (by simp only [B, xB, F, reduceLT, reduceLeDiff, reduceEqDiff, reduceAdd, reduceMul, reduceSub, ↓reduceIte, eq_self, t5]) (by simp only [B, xB, F, reduceLT, reduceLeDiff, reduceEqDiff, reduceAdd, reduceMul, reduceSub, ↓reduceIte, eq_self, t6]) (by simp only [B, xB, F, reduceLT, reduceLeDiff, reduceEqDiff, reduceAdd, reduceMul, reduceSub, ↓reduceIte, eq_self, t7]) (by simp only [B, xB, F, reduceLT, reduceLeDiff, reduceEqDiff, reduceAdd, reduceMul, reduceSub, ↓reduceIte, eq_self, t11]) _ ?_⟩
   intro tm' h' L' rev' comp' v' H' rv' ph' u0 u5 u6 u7 u11
   have w1 : wrapF .i64 (Int.ofNat i + Int.ofNat 1) = Int.ofNat (i + 1) := i64_add (by omega)
   rw [blkK_norm]
   repeat' (first | ((with_reducible refine st1 ?_); (conv => whnf); (with_reducible refine ⟨?_⟩)) | ((with_reducible refine retW_intro rfl ?_); (conv => arg 2; whnf)) | ((with_reducible first | refine iB ?_ ?_ | refine gWt ?_ ?_ | refine gWf ?_ ?_) <;> intro hb <;> (try simp only [hb])) | (simp only [B, xB, F, reduceLT, reduceLeDiff, reduceEqDiff, reduceAdd, reduceMul, reduceSub, ↓reduceIte, eq_self, u11, w1]))
   refine ⟨n - (i + 1), by omega, i + 1, L', rev', comp', v', rfl, rfl, by omega, by simp only [B, xB, F, reduceLT, reduceLeDiff, reduceEqDiff, reduceAdd, reduceMul, reduceSub, ↓reduceIte, eq_self, u0], by simp only [B, xB, F, reduceLT, reduceLeDiff, reduceEqDiff, reduceAdd, reduceMul, reduceSub, ↓reduceIte, eq_self, u5], by simp only [B, xB, F, reduceLT, reduceLeDiff, reduceEqDiff, reduceAdd, reduceMul, reduceSub, ↓reduceIte, eq_self, u6], by simp only [B, xB, F, reduceLT, reduceLeDiff, reduceEqDiff, reduceAdd, reduceMul, reduceSub, ↓reduceIte, eq_self, u7], by simp only [B, xB, F, reduceLT, reduceLeDiff, reduceEqDiff, reduceAdd, reduceMul, reduceSub, ↓reduceIte, eq_self], by omega, by rw [show 6 * (i + 1) = 6 * i + 6 by omega]; exact H', ?_⟩
   rcases ph' with ⟨p1, p8, p9, p10⟩ | ⟨p1, main, L0, L1, tv, th, ts, p8, p9, p10, pb⟩
   ·exact .inl ⟨p1, by simp only [B, xB, F, reduceLT, reduceLeDiff, reduceEqDiff, reduceAdd, reduceMul, reduceSub, ↓reduceIte, eq_self, p8], by simp only [B, xB, F, reduceLT, reduceLeDiff, reduceEqDiff, reduceAdd, reduceMul, reduceSub, ↓reduceIte, eq_self, p9], by simp only [B, xB, F, reduceLT, reduceLeDiff, reduceEqDiff, reduceAdd, reduceMul, reduceSub, ↓reduceIte, eq_self, p10]⟩
   ·exact .inr ⟨p1, main, L0, L1, tv, th, ts, by simp only [B, xB, F, reduceLT, reduceLeDiff, reduceEqDiff, reduceAdd, reduceMul, reduceSub, ↓reduceIte, eq_self, p8], by simp only [B, xB, F, reduceLT, reduceLeDiff, reduceEqDiff, reduceAdd, reduceMul, reduceSub, ↓reduceIte, eq_self, p9], by simp only [B, xB, F, reduceLT, reduceLeDiff, reduceEqDiff, reduceAdd, reduceMul, reduceSub, ↓reduceIte, eq_self, p10], pb⟩
  ·have e : (i = k) = False := eq_false hik
   repeat' (first | (with_reducible refine stopC [1, 0, 0, 1, 0, 0, 1, 0, 1, 1, 1, 1, 1, 1, 1, 1] ?_) | ((with_reducible refine st1 ?_); (conv => whnf); (with_reducible refine ⟨?_⟩)) | ((with_reducible refine retW_intro rfl ?_); (conv => arg 2; whnf)) | ((with_reducible first | refine iB ?_ ?_ | refine gWt ?_ ?_ | refine gWf ?_ ?_) <;> intro hb <;> (try simp only [hb])) | (simp only [B, xB, F, reduceLT, reduceLeDiff, reduceEqDiff, reduceAdd, reduceMul, reduceSub, ↓reduceIte, eq_self, t0, t5, t6, t7, t11, di, e]))
   refine ⟨staysOne h0 va l sl hl n k h1.nx i rev comp v L hi n40 nl _ h hh rv ?_ (by simp only [B, xB, F, reduceLT, reduceLeDiff, reduceEqDiff, reduceAdd, reduceMul, reduceSub, ↓reduceIte, eq_self, t0]) (by simp only [B, xB, F, reduceLT, reduceLeDiff, reduceEqDiff, reduceAdd, reduceMul, reduceSub, ↓reduceIte, eq_self, t5]) (by simp only [B, xB, F, reduceLT, reduceLeDiff, reduceEqDiff, reduceAdd, reduceMul, reduceSub, ↓reduceIte, eq_self, t6]) (by simp only [B, xB, F, reduceLT, reduceLeDiff, reduceEqDiff, reduceAdd, reduceMul, reduceSub, ↓reduceIte, eq_self, t7]) (by simp only [B, xB, F, reduceLT, reduceLeDiff, reduceEqDiff, reduceAdd, reduceMul, reduceSub, ↓reduceIte, eq_self, t11]) _ ?_⟩
   ·rcases ph with ⟨p1, p8, p9, p10⟩ | ⟨p1, main, L0, L1, tv, th, ts, p8, p9, p10, pb⟩
    ·exact .inl ⟨by omega, by simp only [B, xB, F, reduceLT, reduceLeDiff, reduceEqDiff, reduceAdd, reduceMul, reduceSub, ↓reduceIte, eq_self, p8], by simp only [B, xB, F, reduceLT, reduceLeDiff, reduceEqDiff, reduceAdd, reduceMul, reduceSub, ↓reduceIte, eq_self, p9], by simp only [B, xB, F, reduceLT, reduceLeDiff, reduceEqDiff, reduceAdd, reduceMul, reduceSub, ↓reduceIte, eq_self, p10]⟩
    ·exact .inr ⟨by omega, main, L0, L1, tv, th, ts, by simp only [B, xB, F, reduceLT, reduceLeDiff, reduceEqDiff, reduceAdd, reduceMul, reduceSub, ↓reduceIte, eq_self, p8], by simp only [B, xB, F, reduceLT, reduceLeDiff, reduceEqDiff, reduceAdd, reduceMul, reduceSub, ↓reduceIte, eq_self, p9], by simp only [B, xB, F, reduceLT, reduceLeDiff, reduceEqDiff, reduceAdd, reduceMul, reduceSub, ↓reduceIte, eq_self, p10], pb⟩
   intro tm' h' L' rev' comp' v' H' rv' ph' u0 u5 u6 u7 u11
   have w1 : wrapF .i64 (Int.ofNat i + Int.ofNat 1) = Int.ofNat (i + 1) := i64_add (by omega)
   rw [blkK_norm]
   repeat' (first | ((with_reducible refine st1 ?_); (conv => whnf); (with_reducible refine ⟨?_⟩)) | ((with_reducible refine retW_intro rfl ?_); (conv => arg 2; whnf)) | ((with_reducible first | refine iB ?_ ?_ | refine gWt ?_ ?_ | refine gWf ?_ ?_) <;> intro hb <;> (try simp only [hb])) | (simp only [B, xB, F, reduceLT, reduceLeDiff, reduceEqDiff, reduceAdd, reduceMul, reduceSub, ↓reduceIte, eq_self, u11, w1]))
   refine ⟨n - (i + 1), by omega, i + 1, L', rev', comp', v', rfl, rfl, by omega, by simp only [B, xB, F, reduceLT, reduceLeDiff, reduceEqDiff, reduceAdd, reduceMul, reduceSub, ↓reduceIte, eq_self, u0], by simp only [B, xB, F, reduceLT, reduceLeDiff, reduceEqDiff, reduceAdd, reduceMul, reduceSub, ↓reduceIte, eq_self, u5], by simp only [B, xB, F, reduceLT, reduceLeDiff, reduceEqDiff, reduceAdd, reduceMul, reduceSub, ↓reduceIte, eq_self, u6], by simp only [B, xB, F, reduceLT, reduceLeDiff, reduceEqDiff, reduceAdd, reduceMul, reduceSub, ↓reduceIte, eq_self, u7], by simp only [B, xB, F, reduceLT, reduceLeDiff, reduceEqDiff, reduceAdd, reduceMul, reduceSub, ↓reduceIte, eq_self], by omega, by rw [show 6 * (i + 1) = 6 * i + 6 by omega]; exact H', ?_⟩
   rcases ph' with ⟨p1, p8, p9, p10⟩ | ⟨p1, main, L0, L1, tv, th, ts, p8, p9, p10, pb⟩
   ·exact .inl ⟨p1, by simp only [B, xB, F, reduceLT, reduceLeDiff, reduceEqDiff, reduceAdd, reduceMul, reduceSub, ↓reduceIte, eq_self, p8], by simp only [B, xB, F, reduceLT, reduceLeDiff, reduceEqDiff, reduceAdd, reduceMul, reduceSub, ↓reduceIte, eq_self, p9], by simp only [B, xB, F, reduceLT, reduceLeDiff, reduceEqDiff, reduceAdd, reduceMul, reduceSub, ↓reduceIte, eq_self, p10]⟩
   ·exact .inr ⟨p1, main, L0, L1, tv, th, ts, by simp only [B, xB, F, reduceLT, reduceLeDiff, reduceEqDiff, reduceAdd, reduceMul, reduceSub, ↓reduceIte, eq_self, p8], by simp only [B, xB, F, reduceLT, reduceLeDiff, reduceEqDiff, reduceAdd, reduceMul, reduceSub, ↓reduceIte, eq_self, p9], by simp only [B, xB, F, reduceLT, reduceLeDiff, reduceEqDiff, reduceAdd, reduceMul, reduceSub, ↓reduceIte, eq_self, p10], pb⟩
 ·have di : decide (i < n) = false := decide_eq_false hi
  obtain rfl : i = n:= by omega
  rcases ph with ⟨p1, p8, p9, p10⟩ | ⟨p1, main, L0, L1, tv, th, ts, p8, p9, p10, pb⟩
  ·obtain rfl : i = k:= by omega
   repeat' (first | ((with_reducible refine st1 ?_); (conv => whnf); (with_reducible refine ⟨?_⟩)) | ((with_reducible refine retW_intro rfl ?_); (conv => arg 2; whnf)) | ((with_reducible first | refine iB ?_ ?_ | refine gWt ?_ ?_ | refine gWf ?_ ?_) <;> intro hb <;> (try simp only [hb])) | (simp only [B, xB, F, reduceLT, reduceLeDiff, reduceEqDiff, reduceAdd, reduceMul, reduceSub, ↓reduceIte, eq_self, t0, t5, t6, t7, t11, di, c0, c1, hlr, lvo]))
   refine ((foldC h h1.nx L rev comp v hh.md nv' rev hs (by omega)).call P).mono P ?_
   rintro tv h3 ⟨o3, g3⟩
   have tvo := g3.one
   repeat' (first | (with_reducible refine stopC [1, 1, 1, 1, 1, 1, 1, 1, 1, 1] ?_) | ((with_reducible refine st1 ?_); (conv => whnf); (with_reducible refine ⟨?_⟩)) | ((with_reducible refine retW_intro rfl ?_); (conv => arg 2; whnf)) | ((with_reducible first | refine iB ?_ ?_ | refine gWt ?_ ?_ | refine gWf ?_ ?_) <;> intro hb <;> (try simp only [hb])) | (simp only [B, xB, F, reduceLT, reduceLeDiff, reduceEqDiff, reduceAdd, reduceMul, reduceSub, ↓reduceIte, eq_self, tvo]))
   exact ⟨staysRest h3 h1.nx rev comp (6 * i) rev v tv L L [] (hh.keep o3).md hh.ok (by omega) hh.hh (by omega) (Then.start hh.ok) g3.slice _ ⟨by simp only [B, xB, F, reduceLT, reduceLeDiff, reduceEqDiff, reduceAdd, reduceMul, reduceSub, ↓reduceIte, eq_self, t5], by simp only [B, xB, F, reduceLT, reduceLeDiff, reduceEqDiff, reduceAdd, reduceMul, reduceSub, ↓reduceIte, eq_self], by simp only [B, xB, F, reduceLT, reduceLeDiff, reduceEqDiff, reduceAdd, reduceMul, reduceSub, ↓reduceIte, eq_self], by simp only [B, xB, F, reduceLT, reduceLeDiff, reduceEqDiff, reduceAdd, reduceMul, reduceSub, ↓reduceIte, eq_self]⟩⟩
  ·have e : (k = i) = False:= by simp; omega
   repeat' (first | (with_reducible refine stopC [1, 1, 1, 1, 1, 1, 1, 1, 1, 1] ?_) | ((with_reducible refine st1 ?_); (conv => whnf); (with_reducible refine ⟨?_⟩)) | ((with_reducible refine retW_intro rfl ?_); (conv => arg 2; whnf)) | ((with_reducible first | refine iB ?_ ?_ | refine gWt ?_ ?_ | refine gWf ?_ ?_) <;> intro hb <;> (try simp only [hb])) | (simp only [B, xB, F, reduceLT, reduceLeDiff, reduceEqDiff, reduceAdd, reduceMul, reduceSub, ↓reduceIte, eq_self, t0, t5, t6, t7, t11, di, e]))
   exact ⟨staysRest h h1.nx rev comp (6 * i) main v tv L L0 L1 hh.md hh.ok (by omega) hh.hh (by omega) th ts _ ⟨by simp only [B, xB, F, reduceLT, reduceLeDiff, reduceEqDiff, reduceAdd, reduceMul, reduceSub, ↓reduceIte, eq_self, t5], by simp only [B, xB, F, reduceLT, reduceLeDiff, reduceEqDiff, reduceAdd, reduceMul, reduceSub, ↓reduceIte, eq_self, p8], by simp only [B, xB, F, reduceLT, reduceLeDiff, reduceEqDiff, reduceAdd, reduceMul, reduceSub, ↓reduceIte, eq_self, p9], by simp only [B, xB, F, reduceLT, reduceLeDiff, reduceEqDiff, reduceAdd, reduceMul, reduceSub, ↓reduceIte, eq_self, p10]⟩⟩
end
end Go.Proofs.Ytnedigoajoflaaa.M

namespace Go.Proofs.Ytnedigoajoflaaa.M
open Go Go.AX
noncomputable section
set_option maxRecDepth 100000
theorem u51t : P.underlying 51 = some (.struct (fieldsOf P 51)):= by kernel_rfl
theorem u5t : P.underlying 5 = some (.int .u8):= by kernel_rfl
theorem c5t : P.cellsOf 5 = 1:= by kernel_rfl
def Sm.ns (x : Sm) : List (IntKind × Nat) := [(.u8, x.what), (.u8, x.a), (.u8, x.b), (.u8, x.n)]
theorem sm_dec {K : Type} {enc : TypeId × Value → K} {w : World} {b : Nat} {sp : Nat → Bool} {hd : Bool} (n : Nat) (cs : List Value) (x : DataW K × List MemPlace) (h : DataW.trod enc P w b sp hd n 51 cs = some x) : ∃ a : Sm, a.n < 256 ∧ cs = a.ns.map natV := by
 obtain ⟨hl, n0, y0, h0⟩ := trod_field (i := 0) (ty := 5) (off := 0) u51t (by kernel_rfl) h
 obtain ⟨_, n1, y1, h1⟩ := trod_field (i := 1) (ty := 5) (off := 1) u51t (by kernel_rfl) h
 obtain ⟨_, n2, y2, h2⟩ := trod_field (i := 2) (ty := 5) (off := 2) u51t (by kernel_rfl) h
 obtain ⟨_, n3, y3, h3⟩ := trod_field (i := 3) (ty := 5) (off := 3) u51t (by kernel_rfl) h
 rw [c5t] at h0 h1 h2 h3
 rw [show P.cellsOf 51 = 4 by kernel_rfl] at hl
 obtain ⟨a, e0, _⟩ := trod_nat (k := .u8) rfl u5t h0
 obtain ⟨b, e1, _⟩ := trod_nat (k := .u8) rfl u5t h1
 obtain ⟨c, e2, _⟩ := trod_nat (k := .u8) rfl u5t h2
 obtain ⟨d, e3, q3⟩ := trod_nat (k := .u8) rfl u5t h3
 match cs, hl with
 | [c0, c1, c2, c3], _ =>
  simp at e0 e1 e2 e3
  exact ⟨⟨a, b, c, d⟩, q3, by rw [e0, e1, e2, e3]; rfl⟩
theorem u8_arg {K : Type} {enc : TypeId × Value → K} {w : World} {r : Go.Reach} {b0 : Nat} {v : Value} (hval : Value.okWide P w r b0 5 v) {d : DataW K} {ps : List MemPlace} (hd : DataW.Trod enc P w 0 (fun _ => true) true 5 v d ps) : ∃ k : Nat, v = .int .u8 (.ofNat k) ∧ k < 256 := by
 obtain ⟨z, rfl⟩ := WideShapes.okWide_int u5t hval
 obtain ⟨fuel, hf⟩ := hd
 obtain ⟨m, e, hm⟩ := trod_nat (k := .u8) rfl u5t hf
 simp [Value.cells] at e
 subst e
 exact ⟨m, rfl, hm⟩
end
end Go.Proofs.Ytnedigoajoflaaa.M
namespace Go.Proofs.Ytnedigoajoflaaa.modelStays
open Go.ChangeShapes Go.WideShapes Go.ChangeAt Go.RowKit
theorem own : ownKnob Try.prog.godebug = none:= by kernel_rfl
theorem laidOut : laidOutB Try.prog = true:= by kernel_rfl
theorem readable : ∀ t, t ∈ [43, 5] → Try.prog.readableRec t = true ∧ t < Try.prog.types.size := by
 intro t ht
 simp only [List.mem_cons, List.mem_nil_iff, or_false] at ht
 rcases ht with rfl | rfl <;> exact ⟨by kernel_rfl, of_decide_eq_true (by kernel_rfl)⟩
set_option maxRecDepth 100000 in
theorem walk (W : World) (vl : AX.AV) (l : List M.Sm) (k : Nat) (cl : Value) (hv : AX.VR (AX.absPhi W.heap.size) vl cl) (sl : AX.SliceAt (AX.absH W) vl l.length (l.flatMap M.Sm.cs)) (hl : ∀ x, x ∈ l → x.n < 256) (hk : k < 256) :
  Calls Try.prog 4 #[cl, .int .u8 (.ofNat k)] W fun e w' => e = .returned (.bool true) ∧ Below W.heap.size W w' := by
 have hw := M.staysC (AX.absH W) vl l k sl hl hk
 refine (AX.calls_of_codeW (fn := Try.f4) (c := AX.bodyC Try.f4) Try.func4 rfl hw (AX.absH_rel W) (Nat.le_refl _) (cargs := #[cl, .int .u8 (.ofNat k)]) ⟨hv, by simp, trivial⟩).mono ?_
 rintro e1 w' ⟨N', φ', cv', v, h', _, rfl, hq, _, hv', _, hb⟩
 have hq : v = .bool true := hq
 subst hq
 rw [AX.VR_bool] at hv'; subst hv'
 exact ⟨rfl, hb⟩
set_option maxRecDepth 100000 in
theorem lifted (os : Os) (started : os.Started) (H : Type) (enc : TypeId × Value → H) :
  ReturnsInHanded {} Try.checked os 4 .any (Rows.modelStaysSpec.pre6 enc Try.prog Try.f4 Rows.modelStaysRow.domain false) (Rows.modelStaysSpec.post enc Try.prog Try.f4 false true false false) := by
 refine returnsInHanded_of_change (C := Try.checked) own started (by kernel_rfl) Try.func4
  (ChangeSpec.witness6 (enc := enc) (C := Try.checked) false ⟨#[], #[.slice none 0 0, .int .u8 0], []⟩ 8 (by kernel_rfl) (by kernel_rfl) (by kernel_rfl) (by kernel_rfl)) ?_
 intro W base args ds gs before hval0 hW hcnd _
 have hW' := hW
 have hlt := hW.lt
 obtain ⟨p, q, hA0, hV, rfl, hfz, hnd⟩ := hW
 have hA : DataW.TrodAll enc Try.prog W 0 (fun _ => true) true Try.f4.params.toList args.toList ds p := hA0
 rw [Try.params4] at hA hval0
 have hA1 := hA
 obtain ⟨v0, vs0, d0, ds0, p0, q0, hargs, rfl, rfl, g0, r0⟩ := trodAll_cons hA
 obtain ⟨v1, vs1, d1, ds1, p1, q1, rfl, rfl, rfl, g1, r1⟩ := trodAll_cons r0
 obtain ⟨rfl, rfl, rfl⟩ := trodAll_nil r1
 obtain rfl : args = #[v0, v1]:= by cases args; simp_all
 obtain ⟨rfl, rfl⟩ := trodVars_none hV
 obtain ⟨vl, l, hv, sl, hl, _⟩ := AX.rows_arg (size := 4) M.u43a (by kernel_rfl) (by omega) M.Sm.ns (fun x => x.n < 256) (fun n cs x h => M.sm_dec n cs x h) (hval0 0 43 v0 rfl rfl) g0
 obtain ⟨k, rfl, hk⟩ := M.u8_arg (hval0 1 5 v1 rfl rfl) g1
 simp only [List.append_nil] at hW' hlt
 refine (walk W vl l k v0 hv sl hl hk).mono fun e1 M' ⟨he, hb⟩ => ?_
 subst he
 exact ⟨_, rfl, _, [], _, [], _, [], hW', trodAll_cons_mk (shut_bool Try.underlying4 _) trodAll_mk0, AX.trodAll_below laidOut hb readable hA1 (fun p hp => hlt p (by simpa using hp)) _ (fun p hp => decide_eq_true (hlt p (by simpa using hp))), rfl, hb.frame _, fun h => by cases h⟩
theorem over : Rows.modelStaysRow.holds Try.pinned (OpenSpec.ofChange Rows.modelStaysSpec) :=
 OpenClaim.holds_of_wide 4 Try.f4 rfl rfl rfl rfl rfl rfl rfl ⟨rfl, rfl, rfl, rfl, rfl⟩ rfl rfl rfl rfl rfl (by kernel_rfl) Try.func4 (by kernel_rfl)
  (of_decide_eq_true (by kernel_rfl)) (by unfold Func.isWrapper; first | (rw [if_pos (by decide +kernel)]; kernel_rfl) | (rw [if_neg (by decide +kernel)]; exact ⟨rfl, rfl⟩))
  (fun os started H enc _ => lifted os started H enc)
theorem proved : Rows.ModelStaysSaid := over
#print axioms proved
end Go.Proofs.Ytnedigoajoflaaa.modelStays


/-
  gens: Put, Tomb, Restore, Empty.
  gens: Restore, Empty, rev.
  gens: Compact.
  gens: the plain law: what generations come to, as changes, one behind the other.
  gens: the plain law of Compact.
  gens: Revs, at, made.
-/
import Derived.Test.YtlkngpckibidlaaAxI
import Derived.Test.YtlkngpckibidlaaG0
set_option linter.unusedSimpArgs false
set_option linter.unusedVariables false
namespace Go.Proofs.Ytlkngpckibidlaa.W
open Go Go.AX
noncomputable section
set_option maxRecDepth 100000
def errV (n : Nat) : AV := .int .i64 (.ofNat n)
def PostE (p : Nat → Prop) (h : H) (L : List Gn) (e : Nat) (v : AV) (h' : H) : Prop := Only h h' [] ∧ ∃ g, v = .tuple [g, errV e] ∧ GensP p h' g L
def putP (L : List Gn) (r : Rv) : List Gn := if fitsB L r then putL L r r.1 1 else L
def putE (L : List Gn) (r : Rv) : Nat := if fitsB L r then 0 else 2
def offP (p : Nat → Prop) (lo hi : Nat) (b : Nat) : Prop := p b ∧ (b < lo ∨ hi ≤ b)
theorem PutC (p : Nat → Prop) (h : H) (v : AV) (L : List Gn) (r : Rv) (hp : ∀ b, h.nx ≤ b → p b) (hg : GensP p h v L) (hz : Sz 900 L) : PushC P (.enter 18 [v, rvA r] h) (PostE p h (putP L r) (putE L r)) := by
  have hg0 := hg
  obtain ⟨s, X, rfl, rfl, hh, hn, hbk⟩ := hg
  have hso := SliceAt.one hh.1
  have e0 : rvA r = .agg [.int .u64 (.ofNat r.1), .int .u64 (.ofNat r.2)] := rfl
  rw [e0]
  refine pushC_of_codeW (fn := Try.f18) (c := bodyC Try.f18) Try.func18 rfl ?_
  show codeW P 18 16 none _ _ _ _ _
  refine codeW_root ?_
  repeat' (first | ((with_reducible show codeW _ _ _ _ (codeI _ _) _ _ _ _); first | (apply st_seq; exact rfl) | (refine st_reg ?_ rfl rfl ?_; exact rfl; (conv => arg 4; whnf); (conv => arg 3; whnf)) | (refine st_cond ?_ rfl ?_; exact rfl; (conv => arg 1; arg 2; whnf)) | (refine st_block ?_ rfl ?_; exact rfl; (conv => arg 9; arg 1; whnf)) | (apply st_skip; exact rfl) | (refine st_exit ?_ rfl ?_; exact rfl; (conv in exitId _ => whnf)) | (apply st_ret; exact rfl)) | ((with_reducible refine retW_intro rfl ?_); (conv => arg 2; whnf)) | ((with_reducible first | refine iB (fun hb => ?_) (fun hb => ?_) | refine gWt (fun hb => ?_) (fun hb => ?_) | refine gWf (fun hb => ?_) (fun hb => ?_)) <;> (try simp only [hb])) | (simp only [B, F, Nat.reduceLT, Nat.reduceLeDiff, Nat.reduceEqDiff, Nat.reduceAdd, Nat.reduceMul, Nat.reduceSub, ↓reduceIte, eq_self, hso]))
  obtain ⟨h1, hH⟩ : ∃ h1, h1 = (((h.newCells 26 [s]).newCells 35 [.int .u64 (.ofNat r.1), .int .u64 (.ofNat r.2)]).newCells 26 [.nilslice]) := ⟨_, rfl⟩
  have x1 : h1.nx = h.nx + 3 := by rw [hH]; rfl
  have o1 : Only h h1 [] := by rw [hH]; exact (((Only.refl _ _).new _ _).new _ _).new _ _
  have c0 : cellAt h1 h.nx 0 = some s := by rw [hH]; simp only [B, F, Nat.reduceLT, Nat.reduceLeDiff, Nat.reduceEqDiff, Nat.reduceAdd, Nat.reduceMul, Nat.reduceSub, ↓reduceIte, eq_self]
  have r0 : cellAt h1 (h.nx + 1) 0 = some (.int .u64 (.ofNat r.1)) := by rw [hH]; simp only [B, F, Nat.reduceLT, Nat.reduceLeDiff, Nat.reduceEqDiff, Nat.reduceAdd, Nat.reduceMul, Nat.reduceSub, ↓reduceIte, eq_self]
  have r1 : cellAt h1 (h.nx + 1) 1 = some (.int .u64 (.ofNat r.2)) := by rw [hH]; simp only [B, F, Nat.reduceLT, Nat.reduceLeDiff, Nat.reduceEqDiff, Nat.reduceAdd, Nat.reduceMul, Nat.reduceSub, ↓reduceIte, eq_self]
  have z0 : cellAt h1 (h.nx + 2) 0 = some .nilslice := by rw [hH]; simp only [B, F, Nat.reduceLT, Nat.reduceLeDiff, Nat.reduceEqDiff, Nat.reduceAdd, Nat.reduceMul, Nat.reduceSub, ↓reduceIte, eq_self]
  have w0 : wrAt h1 (h.nx + 2) = true := by rw [hH]; simp only [B, F, Nat.reduceLT, Nat.reduceLeDiff, Nat.reduceEqDiff, Nat.reduceAdd, Nat.reduceMul, Nat.reduceSub, ↓reduceIte, eq_self]
  rw [← hH]
  refine ((fitsC h1 _ _ r (hg0.at.keep o1) (hz.le (by omega))).call P).mono P ?_
  rintro v h2 ⟨rfl, o2⟩
  have oo : Only h h2 [] := o1.trans o2 (fun _ h => h) (fun _ h => by cases h)
  have x2 := o2.1
  have c0 : cellAt h2 h.nx 0 = some s := by rw [o2.cell (by omega) (by simp)]; exact c0
  have r0 : cellAt h2 (h.nx + 1) 0 = some (.int .u64 (.ofNat r.1)) := by rw [o2.cell (by omega) (by simp)]; exact r0
  have r1 : cellAt h2 (h.nx + 1) 1 = some (.int .u64 (.ofNat r.2)) := by rw [o2.cell (by omega) (by simp)]; exact r1
  have z0 : cellAt h2 (h.nx + 2) 0 = some .nilslice := by rw [o2.cell (by omega) (by simp)]; exact z0
  have w0 : wrAt h2 (h.nx + 2) = true := by rw [o2.wr (by omega) (by simp)]; exact w0
  have hg2 : GensP (offP p h.nx h2.nx) h2 (.agg [s]) (X.map (·.1)) := (hg0.mono fun b hb q => ⟨q, .inl hb⟩).keep0 oo
  have ho2 : ∀ v, Only h2 (h2.sts (h.nx + 2) 0 [v]) [h.nx + 2] := fun v => (Only.refl _ _).sts (.inl (by simp))
  have hoff : ∀ c, c ∈ [h.nx + 2] → ¬ offP p h.nx h2.nx c := fun c hc q => by rw [List.mem_singleton] at hc; subst hc; have := q.2; omega
  unfold PostE putP putE errV
  cases hf : fitsB (X.map (·.1)) r with
  | false =>
    repeat' (first | ((with_reducible show codeW _ _ _ _ (codeI _ _) _ _ _ _); first | (apply st_seq; exact rfl) | (refine st_reg ?_ rfl rfl ?_; exact rfl; (conv => arg 4; whnf); (conv => arg 3; whnf)) | (refine st_cond ?_ rfl ?_; exact rfl; (conv => arg 1; arg 2; whnf)) | (refine st_block ?_ rfl ?_; exact rfl; (conv => arg 9; arg 1; whnf)) | (apply st_skip; exact rfl) | (refine st_exit ?_ rfl ?_; exact rfl; (conv in exitId _ => whnf)) | (apply st_ret; exact rfl)) | ((with_reducible refine retW_intro rfl ?_); (conv => arg 2; whnf)) | ((with_reducible first | refine iB (fun hb => ?_) (fun hb => ?_) | refine gWt (fun hb => ?_) (fun hb => ?_) | refine gWf (fun hb => ?_) (fun hb => ?_)) <;> (try simp only [hb])) | (simp only [B, F, Nat.reduceLT, Nat.reduceLeDiff, Nat.reduceEqDiff, Nat.reduceAdd, Nat.reduceMul, Nat.reduceSub, ↓reduceIte, eq_self, c0, z0, put_sts, w0, cellAt_sts w0, hso]))
    exact ⟨oo.sts (.inr (by omega)), _, rfl, (hg2.keep (ho2 _) hoff).mono fun b _ q => q.1⟩
  | true =>
    repeat' (first | ((with_reducible show codeW _ _ _ _ (codeI _ _) _ _ _ _); first | (apply st_seq; exact rfl) | (refine st_reg ?_ rfl rfl ?_; exact rfl; (conv => arg 4; whnf); (conv => arg 3; whnf)) | (refine st_cond ?_ rfl ?_; exact rfl; (conv => arg 1; arg 2; whnf)) | (refine st_block ?_ rfl ?_; exact rfl; (conv => arg 9; arg 1; whnf)) | (apply st_skip; exact rfl) | (refine st_exit ?_ rfl ?_; exact rfl; (conv in exitId _ => whnf)) | (apply st_ret; exact rfl)) | ((with_reducible refine retW_intro rfl ?_); (conv => arg 2; whnf)) | ((with_reducible first | refine iB (fun hb => ?_) (fun hb => ?_) | refine gWt (fun hb => ?_) (fun hb => ?_) | refine gWf (fun hb => ?_) (fun hb => ?_)) <;> (try simp only [hb])) | (simp only [B, F, Nat.reduceLT, Nat.reduceLeDiff, Nat.reduceEqDiff, Nat.reduceAdd, Nat.reduceMul, Nat.reduceSub, ↓reduceIte, eq_self, c0, r0, r1, z0]))
    refine ((putC (offP p h.nx h2.nx) h2 _ _ r r.1 1 (fun b hb => ⟨hp b (by omega), .inr hb⟩) hg2 hz).call P).mono P ?_
    rintro v h3 ⟨o3, hg3⟩
    have hg30 := hg3
    obtain ⟨s3, X3, rfl, -, hh3, -, -⟩ := hg3
    have hso3 := SliceAt.one hh3.1
    have w3 : wrAt h3 (h.nx + 2) = true := by rw [o3.wr (by omega) (by simp)]; exact w0
    have z3 : cellAt h3 (h.nx + 2) 0 = some .nilslice := by rw [o3.cell (by omega) (by simp)]; exact z0
    have oo3 : Only h h3 [] := oo.trans o3 (fun _ h => h) (fun _ h => by cases h)
    have x3 := o3.1
    have o34 : ∀ v, Only h3 (h3.sts (h.nx + 2) 0 [v]) [h.nx + 2] := fun v => (Only.refl _ _).sts (.inl (by simp))
    repeat' (first | ((with_reducible show codeW _ _ _ _ (codeI _ _) _ _ _ _); first | (apply st_seq; exact rfl) | (refine st_reg ?_ rfl rfl ?_; exact rfl; (conv => arg 4; whnf); (conv => arg 3; whnf)) | (refine st_cond ?_ rfl ?_; exact rfl; (conv => arg 1; arg 2; whnf)) | (refine st_block ?_ rfl ?_; exact rfl; (conv => arg 9; arg 1; whnf)) | (apply st_skip; exact rfl) | (refine st_exit ?_ rfl ?_; exact rfl; (conv in exitId _ => whnf)) | (apply st_ret; exact rfl)) | ((with_reducible refine retW_intro rfl ?_); (conv => arg 2; whnf)) | ((with_reducible first | refine iB (fun hb => ?_) (fun hb => ?_) | refine gWt (fun hb => ?_) (fun hb => ?_) | refine gWf (fun hb => ?_) (fun hb => ?_)) <;> (try simp only [hb])) | (simp only [B, F, Nat.reduceLT, Nat.reduceLeDiff, Nat.reduceEqDiff, Nat.reduceAdd, Nat.reduceMul, Nat.reduceSub, ↓reduceIte, eq_self, z3, put_sts, w3, cellAt_sts w3, hso3]))
    exact ⟨oo3.sts (.inr (by omega)), _, rfl, (hg30.keep (o34 _) hoff).mono fun b _ q => q.1⟩
def tombL (L : List Gn) (r : Rv) : List Gn :=
  match L.getLast? with
  | some g => L.dropLast ++ [{ g with en := r, ended := true }]
  | none => []
def tombP (L : List Gn) (r : Rv) : List Gn := if fitsB L r && opn L then tombL L r else L
def tombE (L : List Gn) (r : Rv) : Nat := if fitsB L r then (if opn L then 0 else 5) else 2
def Opq (L : List Gn) : Prop := ∀ Y g, L = Y ++ [g] → g.ended = false → g.puts ≠ []
theorem flat_at (Y : List (Gn × AV)) (g : Gn × AV) (j : Nat) : ((Y ++ [g]).flatMap gC)[j]? = if j < Y.length * 6 then (Y.flatMap gC)[j]? else (gC g)[j - Y.length * 6]? := by
  simp only [List.flatMap_append, List.flatMap_cons, List.flatMap_nil, List.append_nil]
  by_cases q : j < Y.length * 6
  · rw [if_pos q, List.getElem?_append_left (by rw [gCs_len]; exact q)]
  · rw [if_neg q, List.getElem?_append_right (by rw [gCs_len]; omega), gCs_len]
theorem TombC (p : Nat → Prop) (h : H) (v : AV) (L : List Gn) (r : Rv) (hp : ∀ b, h.nx ≤ b → p b) (hg : GensP p h v L) (hz : Sz 900 L) (hq : Opq L) : PushC P (.enter 20 [v, rvA r] h) (PostE p h (tombP L r) (tombE L r)) := by
  have hg0 := hg
  obtain ⟨s, X, rfl, rfl, hh, hn, hbk⟩ := hg
  have hso := SliceAt.one hh.1
  have hXz : X.length ≤ 900 := by have := hz.1; simpa using this
  have e0 : rvA r = .agg [.int .u64 (.ofNat r.1), .int .u64 (.ofNat r.2)] := rfl
  rw [e0]
  refine pushC_of_codeW (fn := Try.f20) (c := bodyC Try.f20) Try.func20 rfl ?_
  show codeW P 20 36 none _ _ _ _ _
  refine codeW_root ?_
  repeat' (first | ((with_reducible show codeW _ _ _ _ (codeI _ _) _ _ _ _); first | (apply st_seq; exact rfl) | (refine st_reg ?_ rfl rfl ?_; exact rfl; (conv => arg 4; whnf); (conv => arg 3; whnf)) | (refine st_cond ?_ rfl ?_; exact rfl; (conv => arg 1; arg 2; whnf)) | (refine st_block ?_ rfl ?_; exact rfl; (conv => arg 9; arg 1; whnf)) | (apply st_skip; exact rfl) | (refine st_exit ?_ rfl ?_; exact rfl; (conv in exitId _ => whnf)) | (apply st_ret; exact rfl)) | ((with_reducible refine retW_intro rfl ?_); (conv => arg 2; whnf)) | ((with_reducible first | refine iB (fun hb => ?_) (fun hb => ?_) | refine gWt (fun hb => ?_) (fun hb => ?_) | refine gWf (fun hb => ?_) (fun hb => ?_)) <;> (try simp only [hb])) | (simp only [B, F, Nat.reduceLT, Nat.reduceLeDiff, Nat.reduceEqDiff, Nat.reduceAdd, Nat.reduceMul, Nat.reduceSub, ↓reduceIte, eq_self, hso]))
  obtain ⟨h1, hH⟩ : ∃ h1, h1 = (((h.newCells 26 [s]).newCells 35 [.int .u64 (.ofNat r.1), .int .u64 (.ofNat r.2)]).newCells 26 [.nilslice]) := ⟨_, rfl⟩
  have x1 : h1.nx = h.nx + 3 := by rw [hH]; rfl
  have o1 : Only h h1 [] := by rw [hH]; exact (((Only.refl _ _).new _ _).new _ _).new _ _
  have c0 : cellAt h1 h.nx 0 = some s := by rw [hH]; simp only [B, F, Nat.reduceLT, Nat.reduceLeDiff, Nat.reduceEqDiff, Nat.reduceAdd, Nat.reduceMul, Nat.reduceSub, ↓reduceIte, eq_self]
  have r0 : cellAt h1 (h.nx + 1) 0 = some (.int .u64 (.ofNat r.1)) := by rw [hH]; simp only [B, F, Nat.reduceLT, Nat.reduceLeDiff, Nat.reduceEqDiff, Nat.reduceAdd, Nat.reduceMul, Nat.reduceSub, ↓reduceIte, eq_self]
  have r1 : cellAt h1 (h.nx + 1) 1 = some (.int .u64 (.ofNat r.2)) := by rw [hH]; simp only [B, F, Nat.reduceLT, Nat.reduceLeDiff, Nat.reduceEqDiff, Nat.reduceAdd, Nat.reduceMul, Nat.reduceSub, ↓reduceIte, eq_self]
  have z0 : cellAt h1 (h.nx + 2) 0 = some .nilslice := by rw [hH]; simp only [B, F, Nat.reduceLT, Nat.reduceLeDiff, Nat.reduceEqDiff, Nat.reduceAdd, Nat.reduceMul, Nat.reduceSub, ↓reduceIte, eq_self]
  have w0 : wrAt h1 (h.nx + 2) = true := by rw [hH]; simp only [B, F, Nat.reduceLT, Nat.reduceLeDiff, Nat.reduceEqDiff, Nat.reduceAdd, Nat.reduceMul, Nat.reduceSub, ↓reduceIte, eq_self]
  rw [← hH]
  refine ((fitsC h1 _ _ r (hg0.at.keep o1) (hz.le (by omega))).call P).mono P ?_
  rintro v h2 ⟨rfl, o2⟩
  have oo : Only h h2 [] := o1.trans o2 (fun _ h => h) (fun _ h => by cases h)
  have x2 := o2.1
  have c0 : cellAt h2 h.nx 0 = some s := by rw [o2.cell (by omega) (by simp)]; exact c0
  have r0 : cellAt h2 (h.nx + 1) 0 = some (.int .u64 (.ofNat r.1)) := by rw [o2.cell (by omega) (by simp)]; exact r0
  have r1 : cellAt h2 (h.nx + 1) 1 = some (.int .u64 (.ofNat r.2)) := by rw [o2.cell (by omega) (by simp)]; exact r1
  have z0 : cellAt h2 (h.nx + 2) 0 = some .nilslice := by rw [o2.cell (by omega) (by simp)]; exact z0
  have w0 : wrAt h2 (h.nx + 2) = true := by rw [o2.wr (by omega) (by simp)]; exact w0
  have hg2 : GensP (offP p h.nx h2.nx) h2 (.agg [s]) (X.map (·.1)) := (hg0.mono fun b hb q => ⟨q, .inl hb⟩).keep0 oo
  have ho2 : ∀ v, Only h2 (h2.sts (h.nx + 2) 0 [v]) [h.nx + 2] := fun v => (Only.refl _ _).sts (.inl (by simp))
  have hoff : ∀ c, c ∈ [h.nx + 2] → ¬ offP p h.nx h2.nx c := fun c hc q => by rw [List.mem_singleton] at hc; subst hc; have := q.2; omega
  unfold PostE tombP tombE errV
  cases hf : fitsB (X.map (·.1)) r with
  | false =>
    repeat' (first | ((with_reducible show codeW _ _ _ _ (codeI _ _) _ _ _ _); first | (apply st_seq; exact rfl) | (refine st_reg ?_ rfl rfl ?_; exact rfl; (conv => arg 4; whnf); (conv => arg 3; whnf)) | (refine st_cond ?_ rfl ?_; exact rfl; (conv => arg 1; arg 2; whnf)) | (refine st_block ?_ rfl ?_; exact rfl; (conv => arg 9; arg 1; whnf)) | (apply st_skip; exact rfl) | (refine st_exit ?_ rfl ?_; exact rfl; (conv in exitId _ => whnf)) | (apply st_ret; exact rfl)) | ((with_reducible refine retW_intro rfl ?_); (conv => arg 2; whnf)) | ((with_reducible first | refine iB (fun hb => ?_) (fun hb => ?_) | refine gWt (fun hb => ?_) (fun hb => ?_) | refine gWf (fun hb => ?_) (fun hb => ?_)) <;> (try simp only [hb])) | (simp only [B, F, Nat.reduceLT, Nat.reduceLeDiff, Nat.reduceEqDiff, Nat.reduceAdd, Nat.reduceMul, Nat.reduceSub, ↓reduceIte, eq_self, c0, z0, put_sts, w0, cellAt_sts w0, hso]))
    exact ⟨oo.sts (.inr (by omega)), _, rfl, (hg2.keep (ho2 _) hoff).mono fun b _ q => q.1⟩
  | true =>
    repeat' (first | ((with_reducible show codeW _ _ _ _ (codeI _ _) _ _ _ _); first | (apply st_seq; exact rfl) | (refine st_reg ?_ rfl rfl ?_; exact rfl; (conv => arg 4; whnf); (conv => arg 3; whnf)) | (refine st_cond ?_ rfl ?_; exact rfl; (conv => arg 1; arg 2; whnf)) | (refine st_block ?_ rfl ?_; exact rfl; (conv => arg 9; arg 1; whnf)) | (apply st_skip; exact rfl) | (refine st_exit ?_ rfl ?_; exact rfl; (conv in exitId _ => whnf)) | (apply st_ret; exact rfl)) | ((with_reducible refine retW_intro rfl ?_); (conv => arg 2; whnf)) | ((with_reducible first | refine iB (fun hb => ?_) (fun hb => ?_) | refine gWt (fun hb => ?_) (fun hb => ?_) | refine gWf (fun hb => ?_) (fun hb => ?_)) <;> (try simp only [hb])) | (simp only [B, F, Nat.reduceLT, Nat.reduceLeDiff, Nat.reduceEqDiff, Nat.reduceAdd, Nat.reduceMul, Nat.reduceSub, ↓reduceIte, eq_self, c0]))
    refine ((openC h2 _ _ hg2.at (hz.le (by omega))).call P).mono P ?_
    rintro v h3 ⟨rfl, o3⟩
    have x3 := o3.1
    have oo3 : Only h h3 [] := oo.trans o3 (fun _ h => h) (fun _ h => by cases h)
    have c0 : cellAt h3 h.nx 0 = some s := by rw [o3.cell (by omega) (by simp)]; exact c0
    have r0 : cellAt h3 (h.nx + 1) 0 = some (.int .u64 (.ofNat r.1)) := by rw [o3.cell (by omega) (by simp)]; exact r0
    have r1 : cellAt h3 (h.nx + 1) 1 = some (.int .u64 (.ofNat r.2)) := by rw [o3.cell (by omega) (by simp)]; exact r1
    have z0 : cellAt h3 (h.nx + 2) 0 = some .nilslice := by rw [o3.cell (by omega) (by simp)]; exact z0
    have w0 : wrAt h3 (h.nx + 2) = true := by rw [o3.wr (by omega) (by simp)]; exact w0
    have ho3 : ∀ v, Only h3 (h3.sts (h.nx + 2) 0 [v]) [h.nx + 2] := fun v => (Only.refl _ _).sts (.inl (by simp))
    cases hop : opn (X.map (·.1)) with
    | false =>
      repeat' (first | ((with_reducible show codeW _ _ _ _ (codeI _ _) _ _ _ _); first | (apply st_seq; exact rfl) | (refine st_reg ?_ rfl rfl ?_; exact rfl; (conv => arg 4; whnf); (conv => arg 3; whnf)) | (refine st_cond ?_ rfl ?_; exact rfl; (conv => arg 1; arg 2; whnf)) | (refine st_block ?_ rfl ?_; exact rfl; (conv => arg 9; arg 1; whnf)) | (apply st_skip; exact rfl) | (refine st_exit ?_ rfl ?_; exact rfl; (conv in exitId _ => whnf)) | (apply st_ret; exact rfl)) | ((with_reducible refine retW_intro rfl ?_); (conv => arg 2; whnf)) | ((with_reducible first | refine iB (fun hb => ?_) (fun hb => ?_) | refine gWt (fun hb => ?_) (fun hb => ?_) | refine gWf (fun hb => ?_) (fun hb => ?_)) <;> (try simp only [hb])) | (simp only [B, F, Nat.reduceLT, Nat.reduceLeDiff, Nat.reduceEqDiff, Nat.reduceAdd, Nat.reduceMul, Nat.reduceSub, ↓reduceIte, eq_self, c0, z0, put_sts, w0, cellAt_sts w0, hso]))
      exact ⟨oo3.sts (.inr (by omega)), _, rfl, ((hg2.keep0 o3).keep (ho3 _) hoff).mono fun b _ q => q.1⟩
    | true =>
      rcases gs_last X with hX0 | ⟨Y, x, hX0⟩
      · rw [hX0] at hop; cases hop
      repeat' (first | ((with_reducible show codeW _ _ _ _ (codeI _ _) _ _ _ _); first | (apply st_seq; exact rfl) | (refine st_reg ?_ rfl rfl ?_; exact rfl; (conv => arg 4; whnf); (conv => arg 3; whnf)) | (refine st_cond ?_ rfl ?_; exact rfl; (conv => arg 1; arg 2; whnf)) | (refine st_block ?_ rfl ?_; exact rfl; (conv => arg 9; arg 1; whnf)) | (apply st_skip; exact rfl) | (refine st_exit ?_ rfl ?_; exact rfl; (conv in exitId _ => whnf)) | (apply st_ret; exact rfl)) | ((with_reducible refine retW_intro rfl ?_); (conv => arg 2; whnf)) | ((with_reducible first | refine iB (fun hb => ?_) (fun hb => ?_) | refine gWt (fun hb => ?_) (fun hb => ?_) | refine gWf (fun hb => ?_) (fun hb => ?_)) <;> (try simp only [hb])) | (simp only [B, F, Nat.reduceLT, Nat.reduceLeDiff, Nat.reduceEqDiff, Nat.reduceAdd, Nat.reduceMul, Nat.reduceSub, ↓reduceIte, eq_self, c0]))
      refine ((copiedC h3 s X (hh.keep oo3) hn (hz.le (by omega))).call P).mono P ?_
      rintro v h4 ⟨b, X', rfl, bb, wb, room, has, o4, hnil, hlast⟩
      obtain ⟨bp, hX', bp1, bp2, bp3, wbp, roomp⟩ := hlast Y x hX0
      have x4 := o4.1
      have hXl : X.length = Y.length + 1 := by rw [hX0]; simp
      have hXl' : X'.length = X.length := by rw [hX', hXl]; simp
      have e1 : wrapF .i64 (Int.ofNat X.length - Int.ofNat 1) = Int.ofNat (X.length - 1) := i64_sub (by omega) (by omega)
      have lt1 : (X.length - 1 < X.length) = True := by simp; omega
      have hx' : X'[X.length - 1]? = some (x.1, .slice bp 0 x.1.puts.length (.exact (x.1.puts.length + 1))) := by rw [hX', hXl]; simp
      have hs4 := has.1
      rw [hXl'] at hs4
      obtain ⟨-, -, -, a3, a4, a5⟩ := gC_at hs4 hx'
      simp only [Nat.zero_add] at a3 a4 a5
      have r0 : cellAt h4 (h.nx + 1) 0 = some (.int .u64 (.ofNat r.1)) := by rw [o4.cell (by omega) (by simp)]; exact r0
      have r1 : cellAt h4 (h.nx + 1) 1 = some (.int .u64 (.ofNat r.2)) := by rw [o4.cell (by omega) (by simp)]; exact r1
      have z0 : cellAt h4 (h.nx + 2) 0 = some .nilslice := by rw [o4.cell (by omega) (by simp)]; exact z0
      have w0 : wrAt h4 (h.nx + 2) = true := by rw [o4.wr (by omega) (by simp)]; exact w0
      have n1 : (h.nx + 1 = h4.nx) = False := by simp; omega
      have n2 : (h.nx + 2 = h4.nx) = False := by simp; omega
      have n3 : (b = h4.nx) = False := by simp; omega
      have n4 : (h4.nx = b) = False := by simp; omega
      have n5 : (h.nx + 1 = b) = False := by simp; omega
      have n6 : (h.nx + 2 = b) = False := by simp; omega
      have wb5 : ∀ l, wrAt ((h4.newCells 26 [.nilslice]).sts h4.nx 0 l) b = true := fun l => by rw [wrAt_sts, wrAt_new, if_neg (by omega)]; exact wb
      have wb6 : ∀ l l' o, wrAt (((h4.newCells 26 [.nilslice]).sts h4.nx 0 l).sts b o l') b = true := fun l l' o => by rw [wrAt_sts]; exact wb5 l
      repeat' (first | ((with_reducible show codeW _ _ _ _ (codeI _ _) _ _ _ _); first | (apply st_seq; exact rfl) | (refine st_reg ?_ rfl rfl ?_; exact rfl; (conv => arg 4; whnf); (conv => arg 3; whnf)) | (refine st_cond ?_ rfl ?_; exact rfl; (conv => arg 1; arg 2; whnf)) | (refine st_block ?_ rfl ?_; exact rfl; (conv => arg 9; arg 1; whnf)) | (apply st_skip; exact rfl) | (refine st_exit ?_ rfl ?_; exact rfl; (conv in exitId _ => whnf)) | (apply st_ret; exact rfl)) | ((with_reducible refine retW_intro rfl ?_); (conv => arg 2; whnf)) | ((with_reducible first | refine iB (fun hb => ?_) (fun hb => ?_) | refine gWt (fun hb => ?_) (fun hb => ?_) | refine gWf (fun hb => ?_) (fun hb => ?_)) <;> (try simp only [hb])) | (simp only [B, F, Nat.reduceLT, Nat.reduceLeDiff, Nat.reduceEqDiff, Nat.reduceAdd, Nat.reduceMul, Nat.reduceSub, ↓reduceIte, eq_self, Nat.lt_irrefl, e1, lt1, a3, a4, a5, r0, r1, z0, n1, n2, n3, n4, n5, n6, put_sts, wb, w0, cellAt_sts (wb5 _), cellAt_sts (wb6 _ _ _), wrAt_sts]))
      have hN : (X.length - 1) * 6 = Y.length * 6 := by rw [hXl]; rfl
      rw [hN]
      obtain ⟨pb, hpb⟩ : ∃ pb, pb = AV.slice bp 0 x.1.puts.length (.exact (x.1.puts.length + 1)) := ⟨_, rfl⟩
      obtain ⟨hf5, h5e⟩ : ∃ h5, h5 = ((((h4.newCells 26 [.nilslice]).sts h4.nx 0 [.slice b 0 X.length (.exact (X.length + 1))]).sts b (Y.length * 6 + 3) [.int .u64 (.ofNat r.1), .int .u64 (.ofNat r.2)]).sts b (Y.length * 6 + 5) [.bool true]).sts (h.nx + 2) 0 [.slice b 0 X.length (.exact (X.length + 1))] := ⟨_, rfl⟩
      rw [← h5e]
      have x5 : hf5.nx = h4.nx + 1 := by rw [h5e]; simp only [nx_sts, nx_new]
      have g5 : ∀ c, c < h4.nx → c ≠ b → c ≠ h.nx + 2 → hf5.t.get c = h4.t.get c := fun c hc k1 k2 => by
        rw [h5e, get_sts _ _ _ _ k2, get_sts _ _ _ _ k1, get_sts _ _ _ _ k1, get_sts _ _ _ _ (by omega), get_new _ _ _ (by omega)]
      have cb : ∀ j, cellAt hf5 b j = if j = Y.length * 6 + 5 then some (.bool true) else if j = Y.length * 6 + 3 then some (.int .u64 (.ofNat r.1)) else if j = Y.length * 6 + 4 then some (.int .u64 (.ofNat r.2)) else cellAt h4 b j := fun j => by
        rw [h5e, cellAt_of_get (get_sts _ _ _ _ (by omega)), cellAt_sts (wb6 _ _ _)]
        by_cases q : j = Y.length * 6 + 5
        · subst q; rw [if_pos ⟨rfl, Nat.le_refl _, by simp⟩, if_pos rfl, Nat.sub_self]; rfl
        · rw [if_neg (by simp only [List.length_cons, List.length_nil]; omega), if_neg q, cellAt_sts (wb5 _)]
          by_cases q3 : j = Y.length * 6 + 3
          · subst q3; rw [if_pos ⟨rfl, Nat.le_refl _, by simp⟩, if_pos rfl, Nat.sub_self]; rfl
          · rw [if_neg q3]
            by_cases q4 : j = Y.length * 6 + 4
            · subst q4; rw [if_pos ⟨rfl, by omega, by simp⟩, if_pos rfl, show Y.length * 6 + 4 - (Y.length * 6 + 3) = 1 by omega]; rfl
            · rw [if_neg (by simp only [List.length_cons, List.length_nil]; omega), if_neg q4, cellAt_of_get (get_sts _ _ _ _ (by omega)), cellAt_of_get (get_new _ _ _ (by omega))]
      have o5 : Only h hf5 [] := ⟨by omega, fun c hc _ => by rw [g5 c (by omega) (by omega) (by omega), o4.2 c (by omega) (by simp)]; exact oo3.2 c hc (by simp)⟩
      have hend : x.1.ended = false := by
        rw [hX0] at hop; simp only [opn, List.map_append, List.map_cons, List.map_nil, List.getLast?_append, List.getLast?_singleton, Option.some_or] at hop
        simpa using hop
      have hput : tombL (X.map (·.1)) r = (Y ++ [({ x.1 with en := r, ended := true }, pb)]).map (fun z : Gn × AV => z.1) := by
        unfold tombL
        rw [hX0]
        simp only [List.map_append, List.map_cons, List.map_nil, List.getLast?_append, List.getLast?_singleton, Option.some_or, List.dropLast_concat]
      have hlen2 : (Y ++ [(({ x.1 with en := r, ended := true } : Gn), pb)]).length = X.length := by rw [hXl]; simp
      refine ⟨o5, _, rfl, .slice b 0 X.length (.exact (X.length + 1)), Y ++ [({ x.1 with en := r, ended := true }, pb)], rfl, hput.symm, ⟨?_, fun y hy => ?_⟩, ⟨fun q => by simp at q, fun y z hy q => ?_⟩, fun c q => ?_, fun y hy c q => ?_⟩
      · rw [hlen2]
        refine .cell _ _ _ _ _ (by omega) (fun j hj => ?_)
        rw [gCs_len, hlen2] at hj
        have hcell4 : cellAt h4 b j = (X'.flatMap gC)[j]? := by
          cases hs4 with
          | cell _ _ _ _ _ _ hc => have := hc j (by rw [gCs_len, hXl']; exact hj); rwa [Nat.zero_add] at this
        rw [Nat.zero_add, cb, flat_at]
        rw [hX', flat_at] at hcell4
        by_cases q : j < Y.length * 6
        · rw [if_neg (by omega), if_neg (by omega), if_neg (by omega), if_pos q, hcell4, if_pos q]
        · rw [if_neg q] at hcell4 ⊢
          obtain ⟨k, rfl⟩ : ∃ k, j = Y.length * 6 + k := ⟨j - Y.length * 6, by omega⟩
          rw [Nat.add_sub_cancel_left] at hcell4 ⊢
          match k with
          | 0 => rw [if_neg (by omega), if_neg (by omega), if_neg (by omega), hcell4]; rfl
          | 1 => rw [if_neg (by omega), if_neg (by omega), if_neg (by omega), hcell4]; rfl
          | 2 => rw [if_neg (by omega), if_neg (by omega), if_neg (by omega), hcell4, hpb]; rfl
          | 3 => rw [if_neg (by omega), if_pos rfl]; rfl
          | 4 => rw [if_neg (by omega), if_neg (by omega), if_pos rfl]; rfl
          | 5 => rw [if_pos rfl]; rfl
          | k + 6 => rw [hXl] at hj; omega
      · rcases List.mem_append.1 hy with hy | hy
        · exact (hh.2 y (by rw [hX0]; exact List.mem_append_left _ hy)).only o5 (fun _ _ => by simp)
        · rw [List.mem_singleton] at hy
          subst hy
          have hsl2 := has.2 (x.1, .slice bp 0 x.1.puts.length (.exact (x.1.puts.length + 1))) (by rw [hX']; simp)
          rw [hpb]
          refine SliceAt.only (S := [b, h.nx + 2]) ⟨by omega, fun c hc hs => ?_⟩ hsl2 (fun c hc => ?_)
          · simp only [List.mem_cons, List.mem_nil_iff, or_false, not_or] at hs
            exact g5 c hc hs.1 hs.2
          · cases hc
            simp only [List.mem_cons, List.mem_nil_iff, or_false, not_or]; omega
      · obtain ⟨_, q2⟩ := List.append_inj' hy rfl
        simp only [List.cons.injEq, and_true] at q2
        rw [← q2] at q
        exact absurd q (hq (Y.map (·.1)) x.1 (by rw [hX0]; simp) hend)
      · cases q; exact hp _ (by omega)
      · rcases List.mem_append.1 hy with hy | hy
        · exact hbk.2 y (by rw [hX0]; exact List.mem_append_left _ hy) c q
        · rw [List.mem_singleton] at hy
          subst hy
          subst hpb
          cases q; exact hp _ (by omega)
end
end Go.Proofs.Ytlkngpckibidlaa.W

namespace Go.Proofs.Ytlkngpckibidlaa.W
open Go Go.AX
noncomputable section
set_option maxRecDepth 100000
theorem kcell {h h' : H} {S : List Nat} {b i : Nat} {v : Option AV} (x : cellAt h b i = v) (ho : Only h h' S) (hb : b < h.nx) (hs : b ∉ S) : cellAt h' b i = v := Eq.trans (ho.cell hb hs i) x
theorem kwr {h h' : H} {S : List Nat} {b : Nat} {v : Bool} (x : wrAt h b = v) (ho : Only h h' S) (hb : b < h.nx) (hs : b ∉ S) : wrAt h' b = v := (ho.wr hb hs).trans x
theorem emptyC (h : H) (v : AV) (L : List Gn) (hg : GensAt h v L) (hz : Sz 1000 L) : PushC P (.enter 24 [v] h) (Says h (.bool L.isEmpty)) := by
  obtain ⟨s, X, rfl, rfl, hh, -⟩ := hg
  have hlen := hh.1.len (P := P) u24
  have hso := SliceAt.one hh.1
  refine pushC_of_codeW (fn := Try.f24) (c := bodyC Try.f24) Try.func24 rfl ?_
  show codeW P 24 7 none _ _ _ _ _
  refine codeW_root ?_
  repeat' (first | ((with_reducible show codeW _ _ _ _ (codeI _ _) _ _ _ _); first | (apply st_seq; exact rfl) | (refine st_reg ?_ rfl rfl ?_; exact rfl; (conv => arg 4; whnf); (conv => arg 3; whnf)) | (refine st_cond ?_ rfl ?_; exact rfl; (conv => arg 1; arg 2; whnf)) | (refine st_block ?_ rfl ?_; exact rfl; (conv => arg 9; arg 1; whnf)) | (apply st_skip; exact rfl) | (refine st_exit ?_ rfl ?_; exact rfl; (conv in exitId _ => whnf)) | (apply st_ret; exact rfl)) | ((with_reducible refine retW_intro rfl ?_); (conv => arg 2; whnf)) | ((with_reducible first | refine iB (fun hb => ?_) (fun hb => ?_) | refine gWt (fun hb => ?_) (fun hb => ?_) | refine gWf (fun hb => ?_) (fun hb => ?_)) <;> (try simp only [hb])) | (simp only [B, F, Nat.reduceLT, Nat.reduceLeDiff, Nat.reduceEqDiff, Nat.reduceAdd, Nat.reduceMul, Nat.reduceSub, ↓reduceIte, eq_self, hlen, hso]))
  refine ⟨?_, (Only.refl _ _).new _ _⟩
  cases X <;> simp
theorem revC (h : H) (m s : Nat) : PushC P (.enter 19 [n64 m, n64 s] h) (Says h (rvA (m, s))) := by
  unfold n64
  refine pushC_of_codeW (fn := Try.f19) (c := bodyC Try.f19) Try.func19 rfl ?_
  show codeW P 19 8 none _ _ _ _ _
  refine codeW_root ?_
  repeat' (first | ((with_reducible show codeW _ _ _ _ (codeI _ _) _ _ _ _); first | (apply st_seq; exact rfl) | (refine st_reg ?_ rfl rfl ?_; exact rfl; (conv => arg 4; whnf); (conv => arg 3; whnf)) | (refine st_cond ?_ rfl ?_; exact rfl; (conv => arg 1; arg 2; whnf)) | (refine st_block ?_ rfl ?_; exact rfl; (conv => arg 9; arg 1; whnf)) | (apply st_skip; exact rfl) | (refine st_exit ?_ rfl ?_; exact rfl; (conv in exitId _ => whnf)) | (apply st_ret; exact rfl)) | ((with_reducible refine retW_intro rfl ?_); (conv => arg 2; whnf)) | ((with_reducible first | refine iB (fun hb => ?_) (fun hb => ?_) | refine gWt (fun hb => ?_) (fun hb => ?_) | refine gWf (fun hb => ?_) (fun hb => ?_)) <;> (try simp only [hb])) | (simp only [B, F, Nat.reduceLT, Nat.reduceLeDiff, Nat.reduceEqDiff, Nat.reduceAdd, Nat.reduceMul, Nat.reduceSub, ↓reduceIte, eq_self]))
  exact ⟨rfl, ((Only.refl _ _).new _ _).sts (.inr (Nat.le_refl _))⟩
def restB (L : List Gn) (r : Rv) (made nth : Nat) : Bool :=
  fitsB L r && !decide (made = 0) && !decide (r.1 < made) && !decide (nth = 0) &&
  (match L.getLast? with
   | none => true
   | some g => if g.ended then decide (g.en.1 < made) else decide (made = g.made) && decide (nth = (g.first + g.puts.length) % M64))
def restP (L : List Gn) (r : Rv) (made nth : Nat) : List Gn := if restB L r made nth then putL L r made nth else L
def restE (L : List Gn) (r : Rv) (made nth : Nat) : Nat := if restB L r made nth then 0 else 2
def keepR (is : Bool) (mod : Rv) (m : Nat) (r : Rv) : Bool := decide (m < r.1) || (is && decide (r = mod))
def leftPuts (is : Bool) (mod : Rv) (m : Nat) (g : Gn) (j : Nat) : List Rv := (g.puts.take j).filter (keepR is mod m)
def leftFirst (is : Bool) (mod : Rv) (m : Nat) (g : Gn) (j : Nat) : Nat := if leftPuts is mod m g j = [] then g.first else (g.first + g.puts.findIdx (keepR is mod m)) % M64
def compG (is : Bool) (mod : Rv) (m : Nat) (g : Gn) : Option Gn :=
  if g.ended && decide (g.en.1 ≤ m) then none
  else if decide (g.puts.filter (keepR is mod m) ≠ []) || g.ended then some { g with first := leftFirst is mod m g g.puts.length, puts := g.puts.filter (keepR is mod m) }
  else none
def compL (L : List Gn) (m : Nat) : List Gn := L.filterMap (compG (atB L m) (atK L m).rev m)
def compK (L : List Gn) (m : Nat) : List Rv := if atB L m then [(atK L m).rev] else []
theorem RestC (p : Nat → Prop) (h : H) (v : AV) (L : List Gn) (r : Rv) (made nth : Nat) (hp : ∀ b, h.nx ≤ b → p b) (hg : GensP p h v L) (hz : Sz 900 L) : PushC P (.enter 21 [v, rvA r, n64 made, n64 nth] h) (PostE p h (restP L r made nth) (restE L r made nth)) := by
  have hg0 := hg
  obtain ⟨s, X, rfl, rfl, hh, hn, hbk⟩ := hg
  have hso := SliceAt.one hh.1
  have hXz : X.length ≤ 900 := by have := hz.1; simpa using this
  have e0 : rvA r = .agg [.int .u64 (.ofNat r.1), .int .u64 (.ofNat r.2)] := rfl
  rw [e0]
  unfold n64
  refine pushC_of_codeW (fn := Try.f21) (c := bodyC Try.f21) Try.func21 rfl ?_
  show codeW P 21 79 none _ _ _ _ _
  refine codeW_root ?_
  repeat' (first | ((with_reducible show codeW _ _ _ _ (codeI _ _) _ _ _ _); first | (apply st_seq; exact rfl) | (refine st_reg ?_ rfl rfl ?_; exact rfl; (conv => arg 4; whnf); (conv => arg 3; whnf)) | (refine st_cond ?_ rfl ?_; exact rfl; (conv => arg 1; arg 2; whnf)) | (refine st_block ?_ rfl ?_; exact rfl; (conv => arg 9; arg 1; whnf)) | (apply st_skip; exact rfl) | (refine st_exit ?_ rfl ?_; exact rfl; (conv in exitId _ => whnf)) | (apply st_ret; exact rfl)) | ((with_reducible refine retW_intro rfl ?_); (conv => arg 2; whnf)) | ((with_reducible first | refine iB (fun hb => ?_) (fun hb => ?_) | refine gWt (fun hb => ?_) (fun hb => ?_) | refine gWf (fun hb => ?_) (fun hb => ?_)) <;> (try simp only [hb])) | (simp only [B, F, Nat.reduceLT, Nat.reduceLeDiff, Nat.reduceEqDiff, Nat.reduceAdd, Nat.reduceMul, Nat.reduceSub, ↓reduceIte, eq_self, hso]))
  obtain ⟨h1, hH⟩ : ∃ h1, h1 = (((h.newCells 26 [s]).newCells 35 [.int .u64 (.ofNat r.1), .int .u64 (.ofNat r.2)]).newCells 26 [.nilslice]) := ⟨_, rfl⟩
  have x1 : h1.nx = h.nx + 3 := by rw [hH]; rfl
  have o1 : Only h h1 [] := by rw [hH]; exact (((Only.refl _ _).new _ _).new _ _).new _ _
  have c0 : cellAt h1 h.nx 0 = some s := by rw [hH]; simp only [B, F, Nat.reduceLT, Nat.reduceLeDiff, Nat.reduceEqDiff, Nat.reduceAdd, Nat.reduceMul, Nat.reduceSub, ↓reduceIte, eq_self]
  have r0 : cellAt h1 (h.nx + 1) 0 = some (.int .u64 (.ofNat r.1)) := by rw [hH]; simp only [B, F, Nat.reduceLT, Nat.reduceLeDiff, Nat.reduceEqDiff, Nat.reduceAdd, Nat.reduceMul, Nat.reduceSub, ↓reduceIte, eq_self]
  have r1 : cellAt h1 (h.nx + 1) 1 = some (.int .u64 (.ofNat r.2)) := by rw [hH]; simp only [B, F, Nat.reduceLT, Nat.reduceLeDiff, Nat.reduceEqDiff, Nat.reduceAdd, Nat.reduceMul, Nat.reduceSub, ↓reduceIte, eq_self]
  have z0 : cellAt h1 (h.nx + 2) 0 = some .nilslice := by rw [hH]; simp only [B, F, Nat.reduceLT, Nat.reduceLeDiff, Nat.reduceEqDiff, Nat.reduceAdd, Nat.reduceMul, Nat.reduceSub, ↓reduceIte, eq_self]
  have w0 : wrAt h1 (h.nx + 2) = true := by rw [hH]; simp only [B, F, Nat.reduceLT, Nat.reduceLeDiff, Nat.reduceEqDiff, Nat.reduceAdd, Nat.reduceMul, Nat.reduceSub, ↓reduceIte, eq_self]
  rw [← hH]
  refine ((fitsC h1 _ _ r (hg0.at.keep o1) (hz.le (by omega))).call P).mono P ?_
  rintro v h2 ⟨rfl, o2⟩
  have oo : Only h h2 [] := o1.trans o2 (fun _ h => h) (fun _ h => by cases h)
  have x2 := o2.1
  first | replace c0 := kcell c0 o2 (by omega) (by simp) | replace c0 := kwr c0 o2 (by omega) (by simp)
  first | replace r0 := kcell r0 o2 (by omega) (by simp) | replace r0 := kwr r0 o2 (by omega) (by simp)
  first | replace r1 := kcell r1 o2 (by omega) (by simp) | replace r1 := kwr r1 o2 (by omega) (by simp)
  first | replace z0 := kcell z0 o2 (by omega) (by simp) | replace z0 := kwr z0 o2 (by omega) (by simp)
  first | replace w0 := kcell w0 o2 (by omega) (by simp) | replace w0 := kwr w0 o2 (by omega) (by simp)
  have hg2 : GensP (offP p h.nx h2.nx) h2 (.agg [s]) (X.map (·.1)) := (hg0.mono fun b hb q => ⟨q, .inl hb⟩).keep0 oo
  have ho2 : ∀ v, Only h2 (h2.sts (h.nx + 2) 0 [v]) [h.nx + 2] := fun v => (Only.refl _ _).sts (.inl (by simp))
  have hoff : ∀ c, c ∈ [h.nx + 2] → ¬ offP p h.nx h2.nx c := fun c hc q => by rw [List.mem_singleton] at hc; subst hc; have := q.2; omega
  obtain ⟨F, hF⟩ : ∃ F, F = fitsB (X.map (·.1)) r := ⟨_, rfl⟩
  rw [← hF]
  cases F with
  | false =>
    have e1 : restB (X.map (·.1)) r made nth = false := by unfold restB; rw [← hF]; rfl
    unfold PostE restP restE errV
    rw [e1]
    repeat' (first | ((with_reducible show codeW _ _ _ _ (codeI _ _) _ _ _ _); first | (apply st_seq; exact rfl) | (refine st_reg ?_ rfl rfl ?_; exact rfl; (conv => arg 4; whnf); (conv => arg 3; whnf)) | (refine st_cond ?_ rfl ?_; exact rfl; (conv => arg 1; arg 2; whnf)) | (refine st_block ?_ rfl ?_; exact rfl; (conv => arg 9; arg 1; whnf)) | (apply st_skip; exact rfl) | (refine st_exit ?_ rfl ?_; exact rfl; (conv in exitId _ => whnf)) | (apply st_ret; exact rfl)) | ((with_reducible refine retW_intro rfl ?_); (conv => arg 2; whnf)) | ((with_reducible first | refine iB (fun hb => ?_) (fun hb => ?_) | refine gWt (fun hb => ?_) (fun hb => ?_) | refine gWf (fun hb => ?_) (fun hb => ?_)) <;> (try simp only [hb])) | (simp only [B, F, Nat.reduceLT, Nat.reduceLeDiff, Nat.reduceEqDiff, Nat.reduceAdd, Nat.reduceMul, Nat.reduceSub, ↓reduceIte, eq_self, c0, z0, put_sts, w0, cellAt_sts w0, hso]))
    exact ⟨oo.sts (.inr (by omega)), _, rfl, (hg2.keep (ho2 _) hoff).mono fun b _ q => q.1⟩
  | true =>
    cases q1 : decide (made = 0) with
    | true =>
      have e1 : restB (X.map (·.1)) r made nth = false := by unfold restB; rw [← hF, q1]; simp
      unfold PostE restP restE errV
      rw [e1]
      repeat' (first | ((with_reducible show codeW _ _ _ _ (codeI _ _) _ _ _ _); first | (apply st_seq; exact rfl) | (refine st_reg ?_ rfl rfl ?_; exact rfl; (conv => arg 4; whnf); (conv => arg 3; whnf)) | (refine st_cond ?_ rfl ?_; exact rfl; (conv => arg 1; arg 2; whnf)) | (refine st_block ?_ rfl ?_; exact rfl; (conv => arg 9; arg 1; whnf)) | (apply st_skip; exact rfl) | (refine st_exit ?_ rfl ?_; exact rfl; (conv in exitId _ => whnf)) | (apply st_ret; exact rfl)) | ((with_reducible refine retW_intro rfl ?_); (conv => arg 2; whnf)) | ((with_reducible first | refine iB (fun hb => ?_) (fun hb => ?_) | refine gWt (fun hb => ?_) (fun hb => ?_) | refine gWf (fun hb => ?_) (fun hb => ?_)) <;> (try simp only [hb])) | (simp only [B, F, Nat.reduceLT, Nat.reduceLeDiff, Nat.reduceEqDiff, Nat.reduceAdd, Nat.reduceMul, Nat.reduceSub, ↓reduceIte, eq_self, q1, c0, z0, put_sts, w0, cellAt_sts w0, hso]))
      exact ⟨oo.sts (.inr (by omega)), _, rfl, (hg2.keep (ho2 _) hoff).mono fun b _ q => q.1⟩
    | false =>
    cases q2 : decide (r.1 < made) with
    | true =>
      have e1 : restB (X.map (·.1)) r made nth = false := by unfold restB; rw [← hF, q1, q2]; simp
      unfold PostE restP restE errV
      rw [e1]
      repeat' (first | ((with_reducible show codeW _ _ _ _ (codeI _ _) _ _ _ _); first | (apply st_seq; exact rfl) | (refine st_reg ?_ rfl rfl ?_; exact rfl; (conv => arg 4; whnf); (conv => arg 3; whnf)) | (refine st_cond ?_ rfl ?_; exact rfl; (conv => arg 1; arg 2; whnf)) | (refine st_block ?_ rfl ?_; exact rfl; (conv => arg 9; arg 1; whnf)) | (apply st_skip; exact rfl) | (refine st_exit ?_ rfl ?_; exact rfl; (conv in exitId _ => whnf)) | (apply st_ret; exact rfl)) | ((with_reducible refine retW_intro rfl ?_); (conv => arg 2; whnf)) | ((with_reducible first | refine iB (fun hb => ?_) (fun hb => ?_) | refine gWt (fun hb => ?_) (fun hb => ?_) | refine gWf (fun hb => ?_) (fun hb => ?_)) <;> (try simp only [hb])) | (simp only [B, F, Nat.reduceLT, Nat.reduceLeDiff, Nat.reduceEqDiff, Nat.reduceAdd, Nat.reduceMul, Nat.reduceSub, ↓reduceIte, eq_self, q1, q2, r0, c0, z0, put_sts, w0, cellAt_sts w0, hso]))
      exact ⟨oo.sts (.inr (by omega)), _, rfl, (hg2.keep (ho2 _) hoff).mono fun b _ q => q.1⟩
    | false =>
    cases q3 : decide (nth = 0) with
    | true =>
      have e1 : restB (X.map (·.1)) r made nth = false := by unfold restB; rw [← hF, q1, q2, q3]; simp
      unfold PostE restP restE errV
      rw [e1]
      repeat' (first | ((with_reducible show codeW _ _ _ _ (codeI _ _) _ _ _ _); first | (apply st_seq; exact rfl) | (refine st_reg ?_ rfl rfl ?_; exact rfl; (conv => arg 4; whnf); (conv => arg 3; whnf)) | (refine st_cond ?_ rfl ?_; exact rfl; (conv => arg 1; arg 2; whnf)) | (refine st_block ?_ rfl ?_; exact rfl; (conv => arg 9; arg 1; whnf)) | (apply st_skip; exact rfl) | (refine st_exit ?_ rfl ?_; exact rfl; (conv in exitId _ => whnf)) | (apply st_ret; exact rfl)) | ((with_reducible refine retW_intro rfl ?_); (conv => arg 2; whnf)) | ((with_reducible first | refine iB (fun hb => ?_) (fun hb => ?_) | refine gWt (fun hb => ?_) (fun hb => ?_) | refine gWf (fun hb => ?_) (fun hb => ?_)) <;> (try simp only [hb])) | (simp only [B, F, Nat.reduceLT, Nat.reduceLeDiff, Nat.reduceEqDiff, Nat.reduceAdd, Nat.reduceMul, Nat.reduceSub, ↓reduceIte, eq_self, q1, q2, q3, r0, c0, z0, put_sts, w0, cellAt_sts w0, hso]))
      exact ⟨oo.sts (.inr (by omega)), _, rfl, (hg2.keep (ho2 _) hoff).mono fun b _ q => q.1⟩
    | false =>
    have hlen := fun h (hh : Has h s X) => hh.1.len (P := P) u24
    rcases gs_last X with hX0 | ⟨Y, x, hX0⟩
    · subst hX0
      have d1 : decide (0 < ([] : List (Gn × AV)).length) = false := rfl
      have e1 : restB (([] : List (Gn × AV)).map (·.1)) r made nth = true := by unfold restB; rw [← hF, q1, q2, q3]; simp
      unfold PostE restP restE errV
      rw [e1]
      repeat' (first | ((with_reducible show codeW _ _ _ _ (codeI _ _) _ _ _ _); first | (apply st_seq; exact rfl) | (refine st_reg ?_ rfl rfl ?_; exact rfl; (conv => arg 4; whnf); (conv => arg 3; whnf)) | (refine st_cond ?_ rfl ?_; exact rfl; (conv => arg 1; arg 2; whnf)) | (refine st_block ?_ rfl ?_; exact rfl; (conv => arg 9; arg 1; whnf)) | (apply st_skip; exact rfl) | (refine st_exit ?_ rfl ?_; exact rfl; (conv in exitId _ => whnf)) | (apply st_ret; exact rfl)) | ((with_reducible refine retW_intro rfl ?_); (conv => arg 2; whnf)) | ((with_reducible first | refine iB (fun hb => ?_) (fun hb => ?_) | refine gWt (fun hb => ?_) (fun hb => ?_) | refine gWf (fun hb => ?_) (fun hb => ?_)) <;> (try simp only [hb])) | (simp only [B, F, Nat.reduceLT, Nat.reduceLeDiff, Nat.reduceEqDiff, Nat.reduceAdd, Nat.reduceMul, Nat.reduceSub, ↓reduceIte, eq_self, q1, q2, q3, r0, r1, c0, z0, hlen _ (hh.keep oo), d1]))
      obtain ⟨h3, h3e⟩ : ∃ h3, h3 = h2 := ⟨_, rfl⟩
      have o23 : Only h2 h3 [] := by rw [h3e]; exact Only.refl _ _
      have x3 := o23.1
      rw [← h3e]
      refine ((putC (offP p h.nx h2.nx) h3 _ _ r made nth (fun b hb => ⟨hp b (by omega), .inr (by omega)⟩) (hg2.keep0 o23) hz).call P).mono P ?_
      rintro v h4 ⟨o4, hg4⟩
      have hg40 := hg4
      obtain ⟨s4, X4, rfl, -, hh4, -, -⟩ := hg4
      have hso4 := SliceAt.one hh4.1
      first | replace w0 := kcell w0 o23 (by omega) (by simp) | replace w0 := kwr w0 o23 (by omega) (by simp)
      first | replace z0 := kcell z0 o23 (by omega) (by simp) | replace z0 := kwr z0 o23 (by omega) (by simp)
      first | replace w0 := kcell w0 o4 (by omega) (by simp) | replace w0 := kwr w0 o4 (by omega) (by simp)
      first | replace z0 := kcell z0 o4 (by omega) (by simp) | replace z0 := kwr z0 o4 (by omega) (by simp)
      have oo4 : Only h h4 [] := (oo.trans o23 (fun _ h => h) (fun _ h => by cases h)).trans o4 (fun _ h => h) (fun _ h => by cases h)
      have x4 := o4.1
      have o45 : ∀ v, Only h4 (h4.sts (h.nx + 2) 0 [v]) [h.nx + 2] := fun v => (Only.refl _ _).sts (.inl (by simp))
      repeat' (first | ((with_reducible show codeW _ _ _ _ (codeI _ _) _ _ _ _); first | (apply st_seq; exact rfl) | (refine st_reg ?_ rfl rfl ?_; exact rfl; (conv => arg 4; whnf); (conv => arg 3; whnf)) | (refine st_cond ?_ rfl ?_; exact rfl; (conv => arg 1; arg 2; whnf)) | (refine st_block ?_ rfl ?_; exact rfl; (conv => arg 9; arg 1; whnf)) | (apply st_skip; exact rfl) | (refine st_exit ?_ rfl ?_; exact rfl; (conv in exitId _ => whnf)) | (apply st_ret; exact rfl)) | ((with_reducible refine retW_intro rfl ?_); (conv => arg 2; whnf)) | ((with_reducible first | refine iB (fun hb => ?_) (fun hb => ?_) | refine gWt (fun hb => ?_) (fun hb => ?_) | refine gWf (fun hb => ?_) (fun hb => ?_)) <;> (try simp only [hb])) | (simp only [B, F, Nat.reduceLT, Nat.reduceLeDiff, Nat.reduceEqDiff, Nat.reduceAdd, Nat.reduceMul, Nat.reduceSub, ↓reduceIte, eq_self, z0, put_sts, w0, cellAt_sts w0, hso4]))
      exact ⟨oo4.sts (.inr (by omega)), _, rfl, (hg40.keep (o45 _) hoff).mono fun b _ q => q.1⟩
    · have hXl : X.length = Y.length + 1 := by rw [hX0]; simp
      have d1 : decide (0 < X.length) = true := decide_eq_true (by omega)
      have e1 : wrapF .i64 (Int.ofNat X.length - Int.ofNat 1) = Int.ofNat (X.length - 1) := i64_sub (by omega) (by omega)
      have lt1 : (X.length - 1 < X.length) = True := by simp; omega
      obtain ⟨b, o, cap, rfl, hb, _⟩ := hh.1.place (by omega)
      have hx : X[X.length - 1]? = some x := by rw [hX0]; simp
      obtain ⟨g0, g1, g2, g3, g4, g5⟩ := gC_at (hh.keep oo).1 hx
      have hxm : x ∈ X := List.mem_of_getElem? hx
      have hsl := SliceAt.one (hh.2 x hxm)
      have hb2 : (b = h2.nx) = False := by simp; omega
      have hl2 := (hh.2 x hxm).len (P := P) u29
      have hxz : x.1.puts.length ≤ 900 := hz.2 x.1 (List.mem_map.2 ⟨x, hxm, rfl⟩)
      have w1' : wrapF .u64 (Int.ofNat x.1.puts.length) = Int.ofNat x.1.puts.length := u64_nat (by omega)
      have n0 : (h.nx = h2.nx) = False := by simp; omega
      have n1 : (h.nx + 1 = h2.nx) = False := by simp; omega
      have n2 : (h.nx + 2 = h2.nx) = False := by simp; omega
      have w5 : ∀ l l', wrAt ((h2.newCells 87 l).sts h2.nx 0 l') (h.nx + 2) = true := fun l l' => by rw [wrAt_sts, wrAt_new, if_neg (by omega)]; exact w0
      have hrb : ∀ c, (match (X.map (·.1)).getLast? with | none => true | some g => if g.ended then decide (g.en.1 < made) else decide (made = g.made) && decide (nth = (g.first + g.puts.length) % M64)) = c → restB (X.map (·.1)) r made nth = c := fun c hc => by unfold restB; rw [← hF, q1, q2, q3, hc]; rfl
      have hlast : (X.map (·.1)).getLast? = some x.1 := by rw [hX0]; simp
      rw [hlast] at hrb
      simp only at hrb
      unfold PostE restP restE errV
      cases he : x.1.ended with
      | true =>
        rw [he] at g5 hrb
        rw [if_pos rfl] at hrb
        cases q4 : decide (made ≤ x.1.en.1) with
        | true =>
          rw [hrb false (decide_eq_false (by have := of_decide_eq_true q4; omega))]
          repeat' (first | ((with_reducible show codeW _ _ _ _ (codeI _ _) _ _ _ _); first | (apply st_seq; exact rfl) | (refine st_reg ?_ rfl rfl ?_; exact rfl; (conv => arg 4; whnf); (conv => arg 3; whnf)) | (refine st_cond ?_ rfl ?_; exact rfl; (conv => arg 1; arg 2; whnf)) | (refine st_block ?_ rfl ?_; exact rfl; (conv => arg 9; arg 1; whnf)) | (apply st_skip; exact rfl) | (refine st_exit ?_ rfl ?_; exact rfl; (conv in exitId _ => whnf)) | (apply st_ret; exact rfl)) | ((with_reducible refine retW_intro rfl ?_); (conv => arg 2; whnf)) | ((with_reducible first | refine iB (fun hb => ?_) (fun hb => ?_) | refine gWt (fun hb => ?_) (fun hb => ?_) | refine gWf (fun hb => ?_) (fun hb => ?_)) <;> (try simp only [hb])) | (simp only [B, F, Nat.reduceLT, Nat.reduceLeDiff, Nat.reduceEqDiff, Nat.reduceAdd, Nat.reduceMul, Nat.reduceSub, ↓reduceIte, eq_self, q1, q2, q3, r0, r1, c0, z0, hlen _ (hh.keep oo), d1, e1, lt1, g0, g1, g2, g3, g4, g5, hsl, hb2, n0, n1, n2, w1', u64_mod, wrAt_new, wrAt_sts, cellAt_sts (w5 _ _), put_sts, w0, hl2, q4]))
          exact ⟨((oo.new _ _).sts (.inr (by omega))).sts (.inr (by omega)), _, rfl, ((hg2.keep0 (((Only.refl _ _).new _ _).sts (.inr (by omega)))).keep (S := [h.nx + 2]) ((Only.refl _ _).sts (.inl (by simp))) hoff).mono fun b _ q => q.1⟩
        | false =>
          rw [hrb true (decide_eq_true (by have := of_decide_eq_false q4; omega))]
          repeat' (first | ((with_reducible show codeW _ _ _ _ (codeI _ _) _ _ _ _); first | (apply st_seq; exact rfl) | (refine st_reg ?_ rfl rfl ?_; exact rfl; (conv => arg 4; whnf); (conv => arg 3; whnf)) | (refine st_cond ?_ rfl ?_; exact rfl; (conv => arg 1; arg 2; whnf)) | (refine st_block ?_ rfl ?_; exact rfl; (conv => arg 9; arg 1; whnf)) | (apply st_skip; exact rfl) | (refine st_exit ?_ rfl ?_; exact rfl; (conv in exitId _ => whnf)) | (apply st_ret; exact rfl)) | ((with_reducible refine retW_intro rfl ?_); (conv => arg 2; whnf)) | ((with_reducible first | refine iB (fun hb => ?_) (fun hb => ?_) | refine gWt (fun hb => ?_) (fun hb => ?_) | refine gWf (fun hb => ?_) (fun hb => ?_)) <;> (try simp only [hb])) | (simp only [B, F, Nat.reduceLT, Nat.reduceLeDiff, Nat.reduceEqDiff, Nat.reduceAdd, Nat.reduceMul, Nat.reduceSub, ↓reduceIte, eq_self, q1, q2, q3, r0, r1, c0, z0, hlen _ (hh.keep oo), d1, e1, lt1, g0, g1, g2, g3, g4, g5, hsl, hb2, n0, n1, n2, w1', u64_mod, wrAt_new, wrAt_sts, cellAt_sts (w5 _ _), put_sts, w0, hl2, q4]))
          obtain ⟨h3, h3e⟩ : ∃ h3, h3 = (h2.newCells 87 [.int .u64 (.ofNat 0), .int .u64 (.ofNat 0), .nilslice, .int .u64 (.ofNat 0), .int .u64 (.ofNat 0), .bool false]).sts h2.nx 0 [.int .u64 (.ofNat x.1.made), .int .u64 (.ofNat x.1.first), x.2, .int .u64 (.ofNat x.1.en.1), .int .u64 (.ofNat x.1.en.2), .bool true] := ⟨_, rfl⟩
          have o23 : Only h2 h3 [] := by rw [h3e]; exact ((Only.refl _ _).new _ _).sts (.inr (Nat.le_refl _))
          have x3 := o23.1
          rw [← h3e]
          refine ((putC (offP p h.nx h2.nx) h3 _ _ r made nth (fun b hb => ⟨hp b (by omega), .inr (by omega)⟩) (hg2.keep0 o23) hz).call P).mono P ?_
          rintro v h4 ⟨o4, hg4⟩
          have hg40 := hg4
          obtain ⟨s4, X4, rfl, -, hh4, -, -⟩ := hg4
          have hso4 := SliceAt.one hh4.1
          first | replace w0 := kcell w0 o23 (by omega) (by simp) | replace w0 := kwr w0 o23 (by omega) (by simp)
          first | replace z0 := kcell z0 o23 (by omega) (by simp) | replace z0 := kwr z0 o23 (by omega) (by simp)
          first | replace w0 := kcell w0 o4 (by omega) (by simp) | replace w0 := kwr w0 o4 (by omega) (by simp)
          first | replace z0 := kcell z0 o4 (by omega) (by simp) | replace z0 := kwr z0 o4 (by omega) (by simp)
          have oo4 : Only h h4 [] := (oo.trans o23 (fun _ h => h) (fun _ h => by cases h)).trans o4 (fun _ h => h) (fun _ h => by cases h)
          have x4 := o4.1
          have o45 : ∀ v, Only h4 (h4.sts (h.nx + 2) 0 [v]) [h.nx + 2] := fun v => (Only.refl _ _).sts (.inl (by simp))
          repeat' (first | ((with_reducible show codeW _ _ _ _ (codeI _ _) _ _ _ _); first | (apply st_seq; exact rfl) | (refine st_reg ?_ rfl rfl ?_; exact rfl; (conv => arg 4; whnf); (conv => arg 3; whnf)) | (refine st_cond ?_ rfl ?_; exact rfl; (conv => arg 1; arg 2; whnf)) | (refine st_block ?_ rfl ?_; exact rfl; (conv => arg 9; arg 1; whnf)) | (apply st_skip; exact rfl) | (refine st_exit ?_ rfl ?_; exact rfl; (conv in exitId _ => whnf)) | (apply st_ret; exact rfl)) | ((with_reducible refine retW_intro rfl ?_); (conv => arg 2; whnf)) | ((with_reducible first | refine iB (fun hb => ?_) (fun hb => ?_) | refine gWt (fun hb => ?_) (fun hb => ?_) | refine gWf (fun hb => ?_) (fun hb => ?_)) <;> (try simp only [hb])) | (simp only [B, F, Nat.reduceLT, Nat.reduceLeDiff, Nat.reduceEqDiff, Nat.reduceAdd, Nat.reduceMul, Nat.reduceSub, ↓reduceIte, eq_self, z0, put_sts, w0, cellAt_sts w0, hso4]))
          exact ⟨oo4.sts (.inr (by omega)), _, rfl, (hg40.keep (o45 _) hoff).mono fun b _ q => q.1⟩
      | false =>
        rw [he] at g5 hrb
        rw [if_neg (by simp)] at hrb
        cases q4 : decide (made = x.1.made) with
        | false =>
          rw [q4] at hrb
          rw [hrb false rfl]
          repeat' (first | ((with_reducible show codeW _ _ _ _ (codeI _ _) _ _ _ _); first | (apply st_seq; exact rfl) | (refine st_reg ?_ rfl rfl ?_; exact rfl; (conv => arg 4; whnf); (conv => arg 3; whnf)) | (refine st_cond ?_ rfl ?_; exact rfl; (conv => arg 1; arg 2; whnf)) | (refine st_block ?_ rfl ?_; exact rfl; (conv => arg 9; arg 1; whnf)) | (apply st_skip; exact rfl) | (refine st_exit ?_ rfl ?_; exact rfl; (conv in exitId _ => whnf)) | (apply st_ret; exact rfl)) | ((with_reducible refine retW_intro rfl ?_); (conv => arg 2; whnf)) | ((with_reducible first | refine iB (fun hb => ?_) (fun hb => ?_) | refine gWt (fun hb => ?_) (fun hb => ?_) | refine gWf (fun hb => ?_) (fun hb => ?_)) <;> (try simp only [hb])) | (simp only [B, F, Nat.reduceLT, Nat.reduceLeDiff, Nat.reduceEqDiff, Nat.reduceAdd, Nat.reduceMul, Nat.reduceSub, ↓reduceIte, eq_self, q1, q2, q3, r0, r1, c0, z0, hlen _ (hh.keep oo), d1, e1, lt1, g0, g1, g2, g3, g4, g5, hsl, hb2, n0, n1, n2, w1', u64_mod, wrAt_new, wrAt_sts, cellAt_sts (w5 _ _), put_sts, w0, hl2, q4]))
          exact ⟨((oo.new _ _).sts (.inr (by omega))).sts (.inr (by omega)), _, rfl, ((hg2.keep0 (((Only.refl _ _).new _ _).sts (.inr (by omega)))).keep (S := [h.nx + 2]) ((Only.refl _ _).sts (.inl (by simp))) hoff).mono fun b _ q => q.1⟩
        | true =>
          rw [q4] at hrb
          cases q5 : decide (nth = (x.1.first + x.1.puts.length) % M64) with
          | false =>
            rw [q5] at hrb
            rw [hrb false rfl]
            repeat' (first | ((with_reducible show codeW _ _ _ _ (codeI _ _) _ _ _ _); first | (apply st_seq; exact rfl) | (refine st_reg ?_ rfl rfl ?_; exact rfl; (conv => arg 4; whnf); (conv => arg 3; whnf)) | (refine st_cond ?_ rfl ?_; exact rfl; (conv => arg 1; arg 2; whnf)) | (refine st_block ?_ rfl ?_; exact rfl; (conv => arg 9; arg 1; whnf)) | (apply st_skip; exact rfl) | (refine st_exit ?_ rfl ?_; exact rfl; (conv in exitId _ => whnf)) | (apply st_ret; exact rfl)) | ((with_reducible refine retW_intro rfl ?_); (conv => arg 2; whnf)) | ((with_reducible first | refine iB (fun hb => ?_) (fun hb => ?_) | refine gWt (fun hb => ?_) (fun hb => ?_) | refine gWf (fun hb => ?_) (fun hb => ?_)) <;> (try simp only [hb])) | (simp only [B, F, Nat.reduceLT, Nat.reduceLeDiff, Nat.reduceEqDiff, Nat.reduceAdd, Nat.reduceMul, Nat.reduceSub, ↓reduceIte, eq_self, q1, q2, q3, r0, r1, c0, z0, hlen _ (hh.keep oo), d1, e1, lt1, g0, g1, g2, g3, g4, g5, hsl, hb2, n0, n1, n2, w1', u64_mod, wrAt_new, wrAt_sts, cellAt_sts (w5 _ _), put_sts, w0, hl2, q4, q5]))
            exact ⟨((oo.new _ _).sts (.inr (by omega))).sts (.inr (by omega)), _, rfl, ((hg2.keep0 (((Only.refl _ _).new _ _).sts (.inr (by omega)))).keep (S := [h.nx + 2]) ((Only.refl _ _).sts (.inl (by simp))) hoff).mono fun b _ q => q.1⟩
          | true =>
            rw [q5] at hrb
            rw [hrb true rfl]
            repeat' (first | ((with_reducible show codeW _ _ _ _ (codeI _ _) _ _ _ _); first | (apply st_seq; exact rfl) | (refine st_reg ?_ rfl rfl ?_; exact rfl; (conv => arg 4; whnf); (conv => arg 3; whnf)) | (refine st_cond ?_ rfl ?_; exact rfl; (conv => arg 1; arg 2; whnf)) | (refine st_block ?_ rfl ?_; exact rfl; (conv => arg 9; arg 1; whnf)) | (apply st_skip; exact rfl) | (refine st_exit ?_ rfl ?_; exact rfl; (conv in exitId _ => whnf)) | (apply st_ret; exact rfl)) | ((with_reducible refine retW_intro rfl ?_); (conv => arg 2; whnf)) | ((with_reducible first | refine iB (fun hb => ?_) (fun hb => ?_) | refine gWt (fun hb => ?_) (fun hb => ?_) | refine gWf (fun hb => ?_) (fun hb => ?_)) <;> (try simp only [hb])) | (simp only [B, F, Nat.reduceLT, Nat.reduceLeDiff, Nat.reduceEqDiff, Nat.reduceAdd, Nat.reduceMul, Nat.reduceSub, ↓reduceIte, eq_self, q1, q2, q3, r0, r1, c0, z0, hlen _ (hh.keep oo), d1, e1, lt1, g0, g1, g2, g3, g4, g5, hsl, hb2, n0, n1, n2, w1', u64_mod, wrAt_new, wrAt_sts, cellAt_sts (w5 _ _), put_sts, w0, hl2, q4, q5]))
            obtain ⟨h3, h3e⟩ : ∃ h3, h3 = (h2.newCells 87 [.int .u64 (.ofNat 0), .int .u64 (.ofNat 0), .nilslice, .int .u64 (.ofNat 0), .int .u64 (.ofNat 0), .bool false]).sts h2.nx 0 [.int .u64 (.ofNat x.1.made), .int .u64 (.ofNat x.1.first), x.2, .int .u64 (.ofNat x.1.en.1), .int .u64 (.ofNat x.1.en.2), .bool false] := ⟨_, rfl⟩
            have o23 : Only h2 h3 [] := by rw [h3e]; exact ((Only.refl _ _).new _ _).sts (.inr (Nat.le_refl _))
            have x3 := o23.1
            rw [← h3e]
            refine ((putC (offP p h.nx h2.nx) h3 _ _ r made nth (fun b hb => ⟨hp b (by omega), .inr (by omega)⟩) (hg2.keep0 o23) hz).call P).mono P ?_
            rintro v h4 ⟨o4, hg4⟩
            have hg40 := hg4
            obtain ⟨s4, X4, rfl, -, hh4, -, -⟩ := hg4
            have hso4 := SliceAt.one hh4.1
            first | replace w0 := kcell w0 o23 (by omega) (by simp) | replace w0 := kwr w0 o23 (by omega) (by simp)
            first | replace z0 := kcell z0 o23 (by omega) (by simp) | replace z0 := kwr z0 o23 (by omega) (by simp)
            first | replace w0 := kcell w0 o4 (by omega) (by simp) | replace w0 := kwr w0 o4 (by omega) (by simp)
            first | replace z0 := kcell z0 o4 (by omega) (by simp) | replace z0 := kwr z0 o4 (by omega) (by simp)
            have oo4 : Only h h4 [] := (oo.trans o23 (fun _ h => h) (fun _ h => by cases h)).trans o4 (fun _ h => h) (fun _ h => by cases h)
            have x4 := o4.1
            have o45 : ∀ v, Only h4 (h4.sts (h.nx + 2) 0 [v]) [h.nx + 2] := fun v => (Only.refl _ _).sts (.inl (by simp))
            repeat' (first | ((with_reducible show codeW _ _ _ _ (codeI _ _) _ _ _ _); first | (apply st_seq; exact rfl) | (refine st_reg ?_ rfl rfl ?_; exact rfl; (conv => arg 4; whnf); (conv => arg 3; whnf)) | (refine st_cond ?_ rfl ?_; exact rfl; (conv => arg 1; arg 2; whnf)) | (refine st_block ?_ rfl ?_; exact rfl; (conv => arg 9; arg 1; whnf)) | (apply st_skip; exact rfl) | (refine st_exit ?_ rfl ?_; exact rfl; (conv in exitId _ => whnf)) | (apply st_ret; exact rfl)) | ((with_reducible refine retW_intro rfl ?_); (conv => arg 2; whnf)) | ((with_reducible first | refine iB (fun hb => ?_) (fun hb => ?_) | refine gWt (fun hb => ?_) (fun hb => ?_) | refine gWf (fun hb => ?_) (fun hb => ?_)) <;> (try simp only [hb])) | (simp only [B, F, Nat.reduceLT, Nat.reduceLeDiff, Nat.reduceEqDiff, Nat.reduceAdd, Nat.reduceMul, Nat.reduceSub, ↓reduceIte, eq_self, z0, put_sts, w0, cellAt_sts w0, hso4]))
            exact ⟨oo4.sts (.inr (by omega)), _, rfl, (hg40.keep (o45 _) hoff).mono fun b _ q => q.1⟩
end
end Go.Proofs.Ytlkngpckibidlaa.W

namespace Go.Proofs.Ytlkngpckibidlaa.W
open Go Go.AX
noncomputable section
set_option maxRecDepth 100000
theorem leftPuts_keep {is : Bool} {mod : Rv} {m : Nat} {g : Gn} {j : Nat} {r : Rv} (hr : g.puts[j]? = some r) (hk : keepR is mod m r = true) : leftPuts is mod m g (j + 1) = leftPuts is mod m g j ++ [r] := by
  unfold leftPuts
  rw [List.take_add_one, hr, List.filter_append]
  simp [hk]
theorem leftPuts_skip {is : Bool} {mod : Rv} {m : Nat} {g : Gn} {j : Nat} {r : Rv} (hr : g.puts[j]? = some r) (hk : keepR is mod m r = false) : leftPuts is mod m g (j + 1) = leftPuts is mod m g j := by
  unfold leftPuts
  rw [List.take_add_one, hr, List.filter_append]
  simp [hk]
theorem leftFirst_skip {is : Bool} {mod : Rv} {m : Nat} {g : Gn} {j : Nat} {r : Rv} (hr : g.puts[j]? = some r) (hk : keepR is mod m r = false) : leftFirst is mod m g (j + 1) = leftFirst is mod m g j := by
  unfold leftFirst; rw [leftPuts_skip hr hk]
theorem leftFirst_keep0 {is : Bool} {mod : Rv} {m : Nat} {g : Gn} {j : Nat} {r : Rv} (hr : g.puts[j]? = some r) (hk : keepR is mod m r = true) (h0 : leftPuts is mod m g j = []) : leftFirst is mod m g (j + 1) = (g.first + j) % M64 := by
  unfold leftFirst
  rw [leftPuts_keep hr hk, if_neg (by simp)]
  have hj : j < g.puts.length := (List.getElem?_eq_some_iff.1 hr).1
  have he : g.puts[j] = r := (List.getElem?_eq_some_iff.1 hr).2
  have : g.puts.findIdx (keepR is mod m) = j := by
    rw [List.findIdx_eq hj]
    refine ⟨by rw [he]; exact hk, fun i hi => ?_⟩
    unfold leftPuts at h0
    rw [List.filter_eq_nil_iff] at h0
    have := h0 (g.puts[i]'(by omega)) (List.mem_of_getElem? (i := i) (by rw [List.getElem?_take, if_pos hi, List.getElem?_eq_getElem (by omega)]))
    simpa using this
  rw [this]
theorem leftFirst_keep1 {is : Bool} {mod : Rv} {m : Nat} {g : Gn} {j : Nat} {r : Rv} (hr : g.puts[j]? = some r) (hk : keepR is mod m r = true) (h0 : leftPuts is mod m g j ≠ []) : leftFirst is mod m g (j + 1) = leftFirst is mod m g j := by
  unfold leftFirst
  rw [leftPuts_keep hr hk, if_neg (by simp), if_neg h0]
theorem leftPuts_len (is : Bool) (mod : Rv) (m : Nat) (g : Gn) (j : Nat) : (leftPuts is mod m g j).length ≤ g.puts.length := by
  unfold leftPuts
  exact Nat.le_trans (List.length_filter_le _ _) (by rw [List.length_take]; exact Nat.min_le_right _ _)
structure CI (h0 : H) (b8 : Nat) (s : AV) (X : List (Gn × AV)) (m : Nat) (is : Bool) (mod : Rv) (n : Nat) (ds : List Nat) (tm : T AV) (h : H) (i : Nat) (X' : List (Gn × AV)) (ov : AV) : Prop where
  ds : ds = []
  nn : n = X.length - i
  ii : i ≤ X.length
  t1 : tm.get 1 = some (.int .u64 (.ofNat m))
  t4 : tm.get 4 = some (.ptr (h0.nx + 1) 0)
  t6 : tm.get 6 = some (.ptr (h0.nx + 2) 0)
  t7 : tm.get 7 = some .nilslice
  t8 : tm.get 8 = some (.ptr b8 0)
  t11 : tm.get 11 = some (.bool is)
  t26 : tm.get 26 = some s
  t27 : tm.get 27 = some (.int .i64 (.ofNat X.length))
  t28 : tm.get 28 = some (.int .i64 (.ofNat i))
  oo : Only h0 h []
  nx : h0.nx + 3 ≤ b8 ∧ b8 < h.nx
  w4 : wrAt h (h0.nx + 1) = true
  c4 : cellAt h (h0.nx + 1) 0 = some .nilslice
  w6 : wrAt h (h0.nx + 2) = true
  c6 : cellAt h (h0.nx + 2) 0 = some ov
  m0 : cellAt h b8 0 = some (.int .u64 (.ofNat mod.1))
  m1 : cellAt h b8 1 = some (.int .u64 (.ofNat mod.2))
  gr : Grows 6 (b8 + 1) h ov X'.length (X'.flatMap gC)
  ex : gs X' = (gs (X.take i)).filterMap (compG is mod m)
  nz : X' = [] → ov = .nilslice
  ps : ∀ x, x ∈ X' → SliceAt h x.2 x.1.puts.length (rvsC x.1.puts) ∧ (x.1.puts = [] → x.2 = .nilslice) ∧ ∀ b, blkOf x.2 = some b → b8 < b ∧ blkOf ov ≠ some b
structure DI (hg : H) (tg : T AV) (x : Gn × AV) (m : Nat) (is : Bool) (mod : Rv) (n : Nat) (ds : List Nat) (tm : T AV) (h : H) (j : Nat) (pv : AV) : Prop where
  ds : ds = []
  nn : n = x.1.puts.length - j
  jl : j ≤ x.1.puts.length
  tt : ∀ k, k ∈ [1, 4, 6, 7, 8, 11, 26, 27, 28] → tm.get k = tg.get k
  t13 : tm.get 13 = some (.ptr hg.nx 0)
  t14 : tm.get 14 = some (.ptr (hg.nx + 1) 0)
  t35 : tm.get 35 = some x.2
  t36 : tm.get 36 = some (.int .i64 (.ofNat x.1.puts.length))
  t37 : tm.get 37 = some (.int .i64 (.ofNat j))
  oo : Only hg h []
  nx : hg.nx + 2 ≤ h.nx
  g1 : cellAt h hg.nx 1 = some (.int .u64 (.ofNat x.1.first))
  g3 : cellAt h hg.nx 3 = some (.int .u64 (.ofNat x.1.en.1))
  g5 : cellAt h hg.nx 5 = some (.bool x.1.ended)
  w : wrAt h (hg.nx + 1) = true
  l0 : cellAt h (hg.nx + 1) 0 = some (.int .u64 (.ofNat x.1.made))
  l1 : cellAt h (hg.nx + 1) 1 = some (.int .u64 (.ofNat (leftFirst is mod m x.1 j)))
  l2 : cellAt h (hg.nx + 1) 2 = some pv
  l3 : cellAt h (hg.nx + 1) 3 = some (.int .u64 (.ofNat x.1.en.1))
  l4 : cellAt h (hg.nx + 1) 4 = some (.int .u64 (.ofNat x.1.en.2))
  l5 : cellAt h (hg.nx + 1) 5 = some (.bool x.1.ended)
  gr : Grows 2 (hg.nx + 2) h pv (leftPuts is mod m x.1 j).length (rvsC (leftPuts is mod m x.1 j))
  nz : leftPuts is mod m x.1 j = [] → pv = .nilslice
theorem DI.skip {hg : H} {tg : T AV} {x : Gn × AV} {m : Nat} {is : Bool} {mod : Rv} {n : Nat} {ds : List Nat} {tm tm' : T AV} {h h' : H} {j : Nat} {pv : AV} {r : Rv} (hI : DI hg tg x m is mod n ds tm h j pv) (ho : Only h h' []) (hr : x.1.puts[j]? = some r) (hk : keepR is mod m r = false)
    (tt : ∀ k, k ∈ [1, 4, 6, 7, 8, 11, 26, 27, 28, 13, 14, 35, 36] → tm'.get k = tm.get k) (q37 : tm'.get 37 = some (.int .i64 (.ofNat (j + 1)))) : DI hg tg x m is mod (x.1.puts.length - (j + 1)) [] tm' h' (j + 1) pv := by
  have hj : j < x.1.puts.length := (List.getElem?_eq_some_iff.1 hr).1
  obtain ⟨rfl, rfl, jl, tt0, q13, q14, q35, q36, _, oc, nxc, k1, k3, k5, wl, l0, l1, l2, l3, l4, l5, gr2, nz2⟩ := hI
  have hx := ho.1
  first | replace k1 := kcell k1 ho (by omega) (by simp) | replace k1 := kwr k1 ho (by omega) (by simp)
  first | replace k3 := kcell k3 ho (by omega) (by simp) | replace k3 := kwr k3 ho (by omega) (by simp)
  first | replace k5 := kcell k5 ho (by omega) (by simp) | replace k5 := kwr k5 ho (by omega) (by simp)
  first | replace wl := kcell wl ho (by omega) (by simp) | replace wl := kwr wl ho (by omega) (by simp)
  first | replace l0 := kcell l0 ho (by omega) (by simp) | replace l0 := kwr l0 ho (by omega) (by simp)
  first | replace l1 := kcell l1 ho (by omega) (by simp) | replace l1 := kwr l1 ho (by omega) (by simp)
  first | replace l2 := kcell l2 ho (by omega) (by simp) | replace l2 := kwr l2 ho (by omega) (by simp)
  first | replace l3 := kcell l3 ho (by omega) (by simp) | replace l3 := kwr l3 ho (by omega) (by simp)
  first | replace l4 := kcell l4 ho (by omega) (by simp) | replace l4 := kwr l4 ho (by omega) (by simp)
  first | replace l5 := kcell l5 ho (by omega) (by simp) | replace l5 := kwr l5 ho (by omega) (by simp)
  exact ⟨rfl, rfl, hj, fun k hk => (tt k (by simp only [List.mem_cons, List.mem_nil_iff, or_false] at hk ⊢; omega)).trans (tt0 k hk), by rw [tt _ (by simp)]; exact q13, by rw [tt _ (by simp)]; exact q14, by rw [tt _ (by simp)]; exact q35, by rw [tt _ (by simp)]; exact q36, q37,
    oc.trans ho (fun _ h => h) (fun _ h => by cases h), by omega, k1, k3, k5, wl, l0, by rw [leftFirst_skip hr hk]; exact l1, l2, l3, l4, l5, by rw [leftPuts_skip hr hk]; exact gr2.of_get hx (fun b hb => ho.2 b (gr2.base hb).2 (by simp)), by rw [leftPuts_skip hr hk]; exact nz2⟩
theorem DI.put {hg : H} {tg : T AV} {x : Gn × AV} {m : Nat} {is : Bool} {mod : Rv} {n : Nat} {ds : List Nat} {tm tm' : T AV} {h h' : H} {j : Nat} {pv pv' : AV} {r : Rv} (hI : DI hg tg x m is mod n ds tm h j pv) (hr : x.1.puts[j]? = some r) (hk : keepR is mod m r = true)
    (hx : h.nx ≤ h'.nx) (ho : ∀ b, b < h.nx → b ≠ hg.nx + 1 → blkOf pv ≠ some b → h'.t.get b = h.t.get b) (wl' : wrAt h' (hg.nx + 1) = true)
    (hl : ∀ k, k ≠ 1 → k ≠ 2 → cellAt h' (hg.nx + 1) k = cellAt h (hg.nx + 1) k) (l1' : cellAt h' (hg.nx + 1) 1 = some (.int .u64 (.ofNat (leftFirst is mod m x.1 (j + 1))))) (l2' : cellAt h' (hg.nx + 1) 2 = some pv')
    (gr' : Grows 2 (hg.nx + 2) h' pv' ((leftPuts is mod m x.1 j).length + 1) (rvsC (leftPuts is mod m x.1 j ++ [r])))
    (tt : ∀ k, k ∈ [1, 4, 6, 7, 8, 11, 26, 27, 28, 13, 14, 35, 36] → tm'.get k = tm.get k) (q37 : tm'.get 37 = some (.int .i64 (.ofNat (j + 1)))) : DI hg tg x m is mod (x.1.puts.length - (j + 1)) [] tm' h' (j + 1) pv' := by
  have hj : j < x.1.puts.length := (List.getElem?_eq_some_iff.1 hr).1
  obtain ⟨rfl, rfl, jl, tt0, q13, q14, q35, q36, _, oc, nxc, k1, k3, k5, wl, l0, l1, l2, l3, l4, l5, gr2, nz2⟩ := hI
  have hpb : ∀ b, b < hg.nx + 2 → blkOf pv ≠ some b := fun b hb q => by have := (gr2.base q).1; omega
  have hgc := cellAt_of_get (ho hg.nx (by omega) (by omega) (hpb _ (by omega)))
  exact ⟨rfl, rfl, hj, fun k hk => (tt k (by simp only [List.mem_cons, List.mem_nil_iff, or_false] at hk ⊢; omega)).trans (tt0 k hk), by rw [tt _ (by simp)]; exact q13, by rw [tt _ (by simp)]; exact q14, by rw [tt _ (by simp)]; exact q35, by rw [tt _ (by simp)]; exact q36, q37,
    ⟨by have := oc.1; omega, fun b hb hs => by have := oc.1; rw [ho b (by omega) (by omega) (hpb _ (by omega))]; exact oc.2 b hb hs⟩, by omega, by rw [hgc]; exact k1, by rw [hgc]; exact k3, by rw [hgc]; exact k5, wl', by rw [hl 0 (by omega) (by omega)]; exact l0, l1', l2', by rw [hl 3 (by omega) (by omega)]; exact l3, by rw [hl 4 (by omega) (by omega)]; exact l4, by rw [hl 5 (by omega) (by omega)]; exact l5,
    by rw [leftPuts_keep hr hk, List.length_append]; exact gr', fun q => by rw [leftPuts_keep hr hk] at q; simp at q⟩
theorem CI.skip {h0 : H} {b8 : Nat} {s : AV} {X : List (Gn × AV)} {m : Nat} {is : Bool} {mod : Rv} {n : Nat} {ds : List Nat} {tm tm' : T AV} {h h' : H} {i : Nat} {X' : List (Gn × AV)} {ov : AV} {x : Gn × AV} (hI : CI h0 b8 s X m is mod n ds tm h i X' ov) (ho : Only h h' []) (hx : X[i]? = some x)
    (hk : compG is mod m x.1 = none) (tt : ∀ k, k ∈ [1, 4, 6, 7, 8, 11, 26, 27] → tm'.get k = tm.get k) (q28 : tm'.get 28 = some (.int .i64 (.ofNat (i + 1)))) : CI h0 b8 s X m is mod (X.length - (i + 1)) [] tm' h' (i + 1) X' ov := by
  have hi : i < X.length := (List.getElem?_eq_some_iff.1 hx).1
  obtain ⟨rfl, rfl, ii, t1, t4, t6, t7, t8, t11, t26, t27, t28, oo, nx, w4, c4, w6, c6, m0, m1, gr, ex, nz, ps⟩ := hI
  have h1 := ho.1
  have h2 := oo.1
  first | replace w4 := kcell w4 ho (by omega) (by simp) | replace w4 := kwr w4 ho (by omega) (by simp)
  first | replace c4 := kcell c4 ho (by omega) (by simp) | replace c4 := kwr c4 ho (by omega) (by simp)
  first | replace w6 := kcell w6 ho (by omega) (by simp) | replace w6 := kwr w6 ho (by omega) (by simp)
  first | replace c6 := kcell c6 ho (by omega) (by simp) | replace c6 := kwr c6 ho (by omega) (by simp)
  first | replace m0 := kcell m0 ho (by omega) (by simp) | replace m0 := kwr m0 ho (by omega) (by simp)
  first | replace m1 := kcell m1 ho (by omega) (by simp) | replace m1 := kwr m1 ho (by omega) (by simp)
  exact ⟨rfl, rfl, hi, by rw [tt _ (by simp)]; exact t1, by rw [tt _ (by simp)]; exact t4, by rw [tt _ (by simp)]; exact t6, by rw [tt _ (by simp)]; exact t7, by rw [tt _ (by simp)]; exact t8, by rw [tt _ (by simp)]; exact t11, by rw [tt _ (by simp)]; exact t26, by rw [tt _ (by simp)]; exact t27, q28,
    oo.trans ho (fun _ h => h) (fun _ h => by cases h), ⟨nx.1, by omega⟩, w4, c4, w6, c6, m0, m1, gr.of_get h1 (fun b hb => ho.2 b (gr.base hb).2 (by simp)),
    by rw [ex, List.take_add_one, hx]; simp [gs, hk], nz, fun y hy => ⟨(ps y hy).1.only ho (fun _ _ => by simp), (ps y hy).2⟩⟩
theorem CI.put {h0 : H} {b8 : Nat} {s : AV} {X : List (Gn × AV)} {m : Nat} {is : Bool} {mod : Rv} {n : Nat} {ds : List Nat} {tm tm' : T AV} {h h' : H} {i : Nat} {X' : List (Gn × AV)} {ov ov' pv : AV} {x : Gn × AV} {g' : Gn} {bn : Nat} (hI : CI h0 b8 s X m is mod n ds tm h i X' ov) (hx : X[i]? = some x)
    (hk : compG is mod m x.1 = some g') (hnx : h.nx ≤ h'.nx) (ho : ∀ b, b < h.nx → b ≠ h0.nx + 2 → blkOf ov ≠ some b → h'.t.get b = h.t.get b) (w6' : wrAt h' (h0.nx + 2) = true) (c6' : cellAt h' (h0.nx + 2) 0 = some ov')
    (gr' : Grows 6 (b8 + 1) h' ov' (X'.length + 1) (X'.flatMap gC ++ gC (g', pv))) (hbn : blkOf ov' = some bn) (hbn2 : h.nx ≤ bn) (hsl : SliceAt h' pv g'.puts.length (rvsC g'.puts)) (hpz : g'.puts = [] → pv = .nilslice) (hpb : ∀ b, blkOf pv = some b → b8 < b ∧ b ≠ bn)
    (tt : ∀ k, k ∈ [1, 4, 6, 7, 8, 11, 26, 27] → tm'.get k = tm.get k) (q28 : tm'.get 28 = some (.int .i64 (.ofNat (i + 1)))) : CI h0 b8 s X m is mod (X.length - (i + 1)) [] tm' h' (i + 1) (X' ++ [(g', pv)]) ov' := by
  have hi : i < X.length := (List.getElem?_eq_some_iff.1 hx).1
  obtain ⟨rfl, rfl, ii, t1, t4, t6, t7, t8, t11, t26, t27, t28, oo, nx, w4, c4, w6, c6, m0, m1, gr, ex, nz, ps⟩ := hI
  have h2 := oo.1
  have hov : ∀ b, b ≤ b8 → blkOf ov ≠ some b := fun b hb q => by have := (gr.base q).1; omega
  have e4 := ho (h0.nx + 1) (by omega) (by omega) (hov _ (by omega))
  have e8 := ho b8 (by omega) (by omega) (hov _ (by omega))
  refine ⟨rfl, rfl, hi, by rw [tt _ (by simp)]; exact t1, by rw [tt _ (by simp)]; exact t4, by rw [tt _ (by simp)]; exact t6, by rw [tt _ (by simp)]; exact t7, by rw [tt _ (by simp)]; exact t8, by rw [tt _ (by simp)]; exact t11, by rw [tt _ (by simp)]; exact t26, by rw [tt _ (by simp)]; exact t27, q28,
    ⟨by omega, fun b hb hs => by rw [ho b (by omega) (by omega) (hov _ (by omega))]; exact oo.2 b hb hs⟩, ⟨nx.1, by omega⟩, by rw [wrAt_of_get e4]; exact w4, by rw [cellAt_of_get e4]; exact c4, w6', c6', by rw [cellAt_of_get e8]; exact m0, by rw [cellAt_of_get e8]; exact m1, ?_,
    ?_, fun q => by simp at q, fun y hy => ?_⟩
  · rw [List.length_append, List.flatMap_append]
    simpa using gr'
  · rw [List.take_add_one, hx]
    simp only [gs, Option.toList_some, List.map_append, List.map_cons, List.map_nil, List.filterMap_append]
    have ex' : X'.map (·.1) = ((X.take i).map (·.1)).filterMap (compG is mod m) := ex
    rw [ex']; simp [hk]
  · rcases List.mem_append.1 hy with hy | hy
    · obtain ⟨p1, p2, p3⟩ := ps y hy
      have hlt := SliceAt.blk p1
      refine ⟨?_, p2, fun b hb => ⟨(p3 b hb).1, fun q => by rw [hbn] at q; cases q; have := hlt _ hb; omega⟩⟩
      exact SliceAt.only (S := [h0.nx + 2] ++ (match blkOf ov with | some c => [c] | none => [])) ⟨hnx, fun b hb hs => ho b hb (fun q => hs (by simp [q])) (fun q => hs (by simp [q]))⟩ p1 (fun b hb hs => by
        rcases List.mem_append.1 hs with hs | hs
        · rw [List.mem_singleton] at hs; have := (p3 b hb).1; omega
        · cases hbo : blkOf ov with
          | none => rw [hbo] at hs; cases hs
          | some c => rw [hbo] at hs; rw [List.mem_singleton] at hs; subst hs; exact (p3 b hb).2 hbo)
    · rw [List.mem_singleton] at hy
      subst hy
      exact ⟨hsl, hpz, fun b hb => ⟨(hpb b hb).1, fun q => by rw [hbn] at q; cases q; exact (hpb _ hb).2 rfl⟩⟩
def PostComp (p : Nat → Prop) (h : H) (L : List Gn) (m : Nat) (v : AV) (h' : H) : Prop := Only h h' [] ∧ ∃ g k, v = .tuple [g, k] ∧ GensP p h' g (compL L m) ∧ Grows 2 h.nx h' k (compK L m).length (rvsC (compK L m))
set_option maxHeartbeats 8000000 in
theorem compC (p : Nat → Prop) (h0 : H) (v : AV) (L : List Gn) (m : Nat) (hp : ∀ b, h0.nx ≤ b → p b) (hg : GensAt h0 v L) (hz : Sz 1000 L) : PushC P (.enter 13 [v, n64 m] h0) (PostComp p h0 L m) := by
  have hg0 := hg
  obtain ⟨s, X, rfl, rfl, hh, -⟩ := hg
  have hso := SliceAt.one hh.1
  have hlen := hh.1.len (P := P) u24
  have hz1 : X.length ≤ 1000 := by have := hz.1; simpa [gs] using this
  unfold n64
  refine pushC_of_codeW (fn := Try.f13) (c := bodyC Try.f13) Try.func13 rfl ?_
  show codeW P 13 103 none _ _ _ _ _
  refine codeW_root ?_
  repeat' (first | ((with_reducible show codeW _ _ _ _ (codeI _ _) _ _ _ _); first | (apply st_seq; exact rfl) | (refine st_reg ?_ rfl rfl ?_; exact rfl; (conv => arg 4; whnf); (conv => arg 3; whnf)) | (refine st_cond ?_ rfl ?_; exact rfl; (conv => arg 1; arg 2; whnf)) | (refine st_block ?_ rfl ?_; exact rfl; (conv => arg 9; arg 1; whnf)) | (apply st_skip; exact rfl) | (refine st_exit ?_ rfl ?_; exact rfl; (conv in exitId _ => whnf)) | (apply st_ret; exact rfl)) | ((with_reducible refine retW_intro rfl ?_); (conv => arg 2; whnf)) | ((with_reducible first | refine iB (fun hb => ?_) (fun hb => ?_) | refine gWt (fun hb => ?_) (fun hb => ?_) | refine gWf (fun hb => ?_) (fun hb => ?_)) <;> (try simp only [hb])) | (simp only [B, F, Nat.reduceLT, Nat.reduceLeDiff, Nat.reduceEqDiff, Nat.reduceAdd, Nat.reduceMul, Nat.reduceSub, ↓reduceIte, eq_self, hso]))
  obtain ⟨h1, hH⟩ : ∃ h1, h1 = (((h0.newCells 26 [s]).newCells 26 [.nilslice]).newCells 26 [.nilslice]) := ⟨_, rfl⟩
  have x1 : h1.nx = h0.nx + 3 := by rw [hH]; rfl
  have o1 : Only h0 h1 [] := by rw [hH]; exact (((Only.refl _ _).new _ _).new _ _).new _ _
  have c2 : cellAt h1 h0.nx 0 = some s := by rw [hH]; simp only [B, F, Nat.reduceLT, Nat.reduceLeDiff, Nat.reduceEqDiff, Nat.reduceAdd, Nat.reduceMul, Nat.reduceSub, ↓reduceIte, eq_self]
  have c4 : cellAt h1 (h0.nx + 1) 0 = some .nilslice := by rw [hH]; simp only [B, F, Nat.reduceLT, Nat.reduceLeDiff, Nat.reduceEqDiff, Nat.reduceAdd, Nat.reduceMul, Nat.reduceSub, ↓reduceIte, eq_self]
  have w4 : wrAt h1 (h0.nx + 1) = true := by rw [hH]; simp only [B, F, Nat.reduceLT, Nat.reduceLeDiff, Nat.reduceEqDiff, Nat.reduceAdd, Nat.reduceMul, Nat.reduceSub, ↓reduceIte, eq_self]
  have c6 : cellAt h1 (h0.nx + 2) 0 = some .nilslice := by rw [hH]; simp only [B, F, Nat.reduceLT, Nat.reduceLeDiff, Nat.reduceEqDiff, Nat.reduceAdd, Nat.reduceMul, Nat.reduceSub, ↓reduceIte, eq_self]
  have w6 : wrAt h1 (h0.nx + 2) = true := by rw [hH]; simp only [B, F, Nat.reduceLT, Nat.reduceLeDiff, Nat.reduceEqDiff, Nat.reduceAdd, Nat.reduceMul, Nat.reduceSub, ↓reduceIte, eq_self]
  rw [← hH]
  refine ((atC h1 _ _ m (hg0.keep o1) hz).call P).mono P ?_
  rintro v h2 ⟨rfl, o2⟩
  have x2 := o2.1
  first | replace c2 := kcell c2 o2 (by omega) (by simp) | replace c2 := kwr c2 o2 (by omega) (by simp)
  first | replace c4 := kcell c4 o2 (by omega) (by simp) | replace c4 := kwr c4 o2 (by omega) (by simp)
  first | replace w4 := kcell w4 o2 (by omega) (by simp) | replace w4 := kwr w4 o2 (by omega) (by simp)
  first | replace c6 := kcell c6 o2 (by omega) (by simp) | replace c6 := kwr c6 o2 (by omega) (by simp)
  first | replace w6 := kcell w6 o2 (by omega) (by simp) | replace w6 := kwr w6 o2 (by omega) (by simp)
  have oo2 : Only h0 h2 [] := o1.trans o2 (fun _ h => h) (fun _ h => by cases h)
  unfold PostComp compL compK
  obtain ⟨is, hi⟩ : ∃ is, is = atB (X.map (·.1)) m := ⟨_, rfl⟩
  obtain ⟨mod, hmod⟩ : ∃ mod, mod = (atK (X.map (·.1)) m).rev := ⟨_, rfl⟩
  rw [← hmod, ← hi]
  have e1 : rvA mod = .agg [.int .u64 (.ofNat mod.1), .int .u64 (.ofNat mod.2)] := rfl
  rw [e1]
  unfold n64
  have n2 : (h0.nx = h2.nx) = False := by simp; omega
  repeat' (first | ((with_reducible show codeW _ _ _ _ (codeI _ _) _ _ _ _); first | (apply st_seq; exact rfl) | (refine st_reg ?_ rfl rfl ?_; exact rfl; (conv => arg 4; whnf); (conv => arg 3; whnf)) | (refine st_cond ?_ rfl ?_; exact rfl; (conv => arg 1; arg 2; whnf)) | (refine st_block ?_ rfl ?_; exact rfl; (conv => arg 9; arg 1; whnf)) | (apply st_skip; exact rfl) | (refine st_exit ?_ rfl ?_; exact rfl; (conv in exitId _ => whnf)) | (apply st_ret; exact rfl)) | ((with_reducible refine retW_intro rfl ?_); (conv => arg 2; whnf)) | ((with_reducible first | refine iB (fun hb => ?_) (fun hb => ?_) | refine gWt (fun hb => ?_) (fun hb => ?_) | refine gWf (fun hb => ?_) (fun hb => ?_)) <;> (try simp only [hb])) | (simp only [B, F, Nat.reduceLT, Nat.reduceLeDiff, Nat.reduceEqDiff, Nat.reduceAdd, Nat.reduceMul, Nat.reduceSub, ↓reduceIte, eq_self, hlen, c2, n2]))
  obtain ⟨h3, h3e⟩ : ∃ h3, h3 = (h2.newCells 35 [.int .u64 (.ofNat 0), .int .u64 (.ofNat 0)]).sts h2.nx 0 [.int .u64 (.ofNat mod.1), .int .u64 (.ofNat mod.2)] := ⟨_, rfl⟩
  rw [← h3e]
  have o3 : Only h2 h3 [] := by rw [h3e]; exact ((Only.refl _ _).new _ _).sts (.inr (Nat.le_refl _))
  have x3 : h3.nx = h2.nx + 1 := by rw [h3e]; rw [nx_sts, nx_new]
  have m0 : cellAt h3 h2.nx 0 = some (.int .u64 (.ofNat mod.1)) := by rw [h3e]; simp only [B, F, Nat.reduceLT, Nat.reduceLeDiff, Nat.reduceEqDiff, Nat.reduceAdd, Nat.reduceMul, Nat.reduceSub, ↓reduceIte, eq_self]
  have m1 : cellAt h3 h2.nx 1 = some (.int .u64 (.ofNat mod.2)) := by rw [h3e]; simp only [B, F, Nat.reduceLT, Nat.reduceLeDiff, Nat.reduceEqDiff, Nat.reduceAdd, Nat.reduceMul, Nat.reduceSub, ↓reduceIte, eq_self]
  first | replace c2 := kcell c2 o3 (by omega) (by simp) | replace c2 := kwr c2 o3 (by omega) (by simp)
  first | replace c4 := kcell c4 o3 (by omega) (by simp) | replace c4 := kwr c4 o3 (by omega) (by simp)
  first | replace w4 := kcell w4 o3 (by omega) (by simp) | replace w4 := kwr w4 o3 (by omega) (by simp)
  first | replace c6 := kcell c6 o3 (by omega) (by simp) | replace c6 := kwr c6 o3 (by omega) (by simp)
  first | replace w6 := kcell w6 o3 (by omega) (by simp) | replace w6 := kwr w6 o3 (by omega) (by simp)
  refine st_loop (fun n ds tm h => ∃ i X' ov, CI h0 h2.nx s X m is mod n ds tm h i X' ov) X.length rfl ⟨0, [], .nilslice, rfl, rfl, Nat.zero_le _, by simp only [B, F, Nat.reduceLT, Nat.reduceLeDiff, Nat.reduceEqDiff, Nat.reduceAdd, Nat.reduceMul, Nat.reduceSub, ↓reduceIte, eq_self], by simp only [B, F, Nat.reduceLT, Nat.reduceLeDiff, Nat.reduceEqDiff, Nat.reduceAdd, Nat.reduceMul, Nat.reduceSub, ↓reduceIte, eq_self], by simp only [B, F, Nat.reduceLT, Nat.reduceLeDiff, Nat.reduceEqDiff, Nat.reduceAdd, Nat.reduceMul, Nat.reduceSub, ↓reduceIte, eq_self], by simp only [B, F, Nat.reduceLT, Nat.reduceLeDiff, Nat.reduceEqDiff, Nat.reduceAdd, Nat.reduceMul, Nat.reduceSub, ↓reduceIte, eq_self], by simp only [B, F, Nat.reduceLT, Nat.reduceLeDiff, Nat.reduceEqDiff, Nat.reduceAdd, Nat.reduceMul, Nat.reduceSub, ↓reduceIte, eq_self], by simp only [B, F, Nat.reduceLT, Nat.reduceLeDiff, Nat.reduceEqDiff, Nat.reduceAdd, Nat.reduceMul, Nat.reduceSub, ↓reduceIte, eq_self], by simp only [B, F, Nat.reduceLT, Nat.reduceLeDiff, Nat.reduceEqDiff, Nat.reduceAdd, Nat.reduceMul, Nat.reduceSub, ↓reduceIte, eq_self], by simp only [B, F, Nat.reduceLT, Nat.reduceLeDiff, Nat.reduceEqDiff, Nat.reduceAdd, Nat.reduceMul, Nat.reduceSub, ↓reduceIte, eq_self], by simp only [B, F, Nat.reduceLT, Nat.reduceLeDiff, Nat.reduceEqDiff, Nat.reduceAdd, Nat.reduceMul, Nat.reduceSub, ↓reduceIte, eq_self],
    oo2.trans o3 (fun _ h => h) (fun _ h => by cases h), ⟨by omega, by omega⟩, w4, c4, w6, c6, m0, m1, .none, rfl, fun _ => rfl, fun x hx => by cases hx⟩ (fun n ds tm h hI => ?_)
  obtain ⟨i, X', ov, hI⟩ := hI
  have hC := hI
  obtain ⟨rfl, rfl, ii, t1, t4, t6, t7, t8, t11, t26, t27, t28, oo, nx, w4, c4, w6, c6, m0, m1, gr, ex, nz, ps⟩ := hI
  by_cases hi : i < X.length
  · have d1 : decide (i < X.length) = true := decide_eq_true hi
    have lt1 : (i < X.length) = True := by simp [hi]
    obtain ⟨x, hx⟩ : ∃ x, X[i]? = some x := ⟨_, List.getElem?_eq_getElem hi⟩
    have hxm : x ∈ X := List.mem_of_getElem? hx
    have hhh := hh.keep oo
    obtain ⟨bs, os, cap, rfl, hbs, _⟩ := hhh.1.place (by omega)
    obtain ⟨g0, g1, g2, g3, g4, g5⟩ := gC_at hhh.1 hx
    have hxl := (hh.2 x hxm).len (P := P) u29
    have hone := SliceAt.one (hh.2 x hxm)
    repeat' (first | ((with_reducible show codeW _ _ _ _ (codeI _ _) _ _ _ _); first | (apply st_seq; exact rfl) | (refine st_reg ?_ rfl rfl ?_; exact rfl; (conv => arg 4; whnf); (conv => arg 3; whnf)) | (refine st_cond ?_ rfl ?_; exact rfl; (conv => arg 1; arg 2; whnf)) | (refine st_block ?_ rfl ?_; exact rfl; (conv => arg 9; arg 1; whnf)) | (apply st_skip; exact rfl) | (refine st_exit ?_ rfl ?_; exact rfl; (conv in exitId _ => whnf)) | (apply st_ret; exact rfl)) | ((with_reducible refine retW_intro rfl ?_); (conv => arg 2; whnf)) | ((with_reducible first | refine iB (fun hb => ?_) (fun hb => ?_) | refine gWt (fun hb => ?_) (fun hb => ?_) | refine gWf (fun hb => ?_) (fun hb => ?_)) <;> (try simp only [hb])) | (simp only [B, F, Nat.reduceLT, Nat.reduceLeDiff, Nat.reduceEqDiff, Nat.reduceAdd, Nat.reduceMul, Nat.reduceSub, ↓reduceIte, eq_self, t1, t4, t6, t7, t8, t11, t26, t27, t28, d1, lt1, g0, g1, g2, g3, g4, g5, hone, hxl]))
    obtain ⟨hq, hqe⟩ : ∃ hq, hq = (((((h.newCells 87 [.int .u64 (.ofNat 0), .int .u64 (.ofNat 0), .nilslice, .int .u64 (.ofNat 0), .int .u64 (.ofNat 0), .bool false]).sts h.nx 0 (gC x)).newCells 87 [.int .u64 (.ofNat 0), .int .u64 (.ofNat 0), .nilslice, .int .u64 (.ofNat 0), .int .u64 (.ofNat 0), .bool false]).sts (h.nx + 1) 0 (gC x)).sts (h.nx + 1) 2 [.nilslice]) := ⟨_, rfl⟩
    unfold gC at hqe
    rw [← hqe]
    have oq : Only h hq [] := by rw [hqe]; exact (((((Only.refl _ _).new _ _).sts (.inr (Nat.le_refl _))).new _ _).sts (.inr (by omega))).sts (.inr (by omega))
    have xq : hq.nx = h.nx + 2 := by rw [hqe]; simp only [nx_sts, nx_new]
    have k1 : cellAt hq h.nx 1 = some (.int .u64 (.ofNat x.1.first)) := by rw [hqe]; simp only [B, F, Nat.reduceLT, Nat.reduceLeDiff, Nat.reduceEqDiff, Nat.reduceAdd, Nat.reduceMul, Nat.reduceSub, ↓reduceIte, eq_self]
    have k3 : cellAt hq h.nx 3 = some (.int .u64 (.ofNat x.1.en.1)) := by rw [hqe]; simp only [B, F, Nat.reduceLT, Nat.reduceLeDiff, Nat.reduceEqDiff, Nat.reduceAdd, Nat.reduceMul, Nat.reduceSub, ↓reduceIte, eq_self]
    have k5 : cellAt hq h.nx 5 = some (.bool x.1.ended) := by rw [hqe]; simp only [B, F, Nat.reduceLT, Nat.reduceLeDiff, Nat.reduceEqDiff, Nat.reduceAdd, Nat.reduceMul, Nat.reduceSub, ↓reduceIte, eq_self]
    have l0 : cellAt hq (h.nx + 1) 0 = some (.int .u64 (.ofNat x.1.made)) := by rw [hqe]; simp only [B, F, Nat.reduceLT, Nat.reduceLeDiff, Nat.reduceEqDiff, Nat.reduceAdd, Nat.reduceMul, Nat.reduceSub, ↓reduceIte, eq_self]
    have l1 : cellAt hq (h.nx + 1) 1 = some (.int .u64 (.ofNat x.1.first)) := by rw [hqe]; simp only [B, F, Nat.reduceLT, Nat.reduceLeDiff, Nat.reduceEqDiff, Nat.reduceAdd, Nat.reduceMul, Nat.reduceSub, ↓reduceIte, eq_self]
    have l2 : cellAt hq (h.nx + 1) 2 = some .nilslice := by rw [hqe]; simp only [B, F, Nat.reduceLT, Nat.reduceLeDiff, Nat.reduceEqDiff, Nat.reduceAdd, Nat.reduceMul, Nat.reduceSub, ↓reduceIte, eq_self]
    have l3 : cellAt hq (h.nx + 1) 3 = some (.int .u64 (.ofNat x.1.en.1)) := by rw [hqe]; simp only [B, F, Nat.reduceLT, Nat.reduceLeDiff, Nat.reduceEqDiff, Nat.reduceAdd, Nat.reduceMul, Nat.reduceSub, ↓reduceIte, eq_self]
    have l4 : cellAt hq (h.nx + 1) 4 = some (.int .u64 (.ofNat x.1.en.2)) := by rw [hqe]; simp only [B, F, Nat.reduceLT, Nat.reduceLeDiff, Nat.reduceEqDiff, Nat.reduceAdd, Nat.reduceMul, Nat.reduceSub, ↓reduceIte, eq_self]
    have l5 : cellAt hq (h.nx + 1) 5 = some (.bool x.1.ended) := by rw [hqe]; simp only [B, F, Nat.reduceLT, Nat.reduceLeDiff, Nat.reduceEqDiff, Nat.reduceAdd, Nat.reduceMul, Nat.reduceSub, ↓reduceIte, eq_self]
    have wl : wrAt hq (h.nx + 1) = true := by rw [hqe]; simp only [B, F, Nat.reduceLT, Nat.reduceLeDiff, Nat.reduceEqDiff, Nat.reduceAdd, Nat.reduceMul, Nat.reduceSub, ↓reduceIte, eq_self]
    have hxz : x.1.puts.length ≤ 1000 := hz.2 x.1 (List.mem_map.2 ⟨x, hxm, rfl⟩)
    refine st_loop (fun n ds tm' h' => ∃ j pv, DI h tm x m is mod n ds tm' h' j pv) x.1.puts.length rfl ⟨0, .nilslice, rfl, rfl, Nat.zero_le _, ?_, by simp only [B, F, Nat.reduceLT, Nat.reduceLeDiff, Nat.reduceEqDiff, Nat.reduceAdd, Nat.reduceMul, Nat.reduceSub, ↓reduceIte, eq_self], by simp only [B, F, Nat.reduceLT, Nat.reduceLeDiff, Nat.reduceEqDiff, Nat.reduceAdd, Nat.reduceMul, Nat.reduceSub, ↓reduceIte, eq_self], by simp only [B, F, Nat.reduceLT, Nat.reduceLeDiff, Nat.reduceEqDiff, Nat.reduceAdd, Nat.reduceMul, Nat.reduceSub, ↓reduceIte, eq_self], by simp only [B, F, Nat.reduceLT, Nat.reduceLeDiff, Nat.reduceEqDiff, Nat.reduceAdd, Nat.reduceMul, Nat.reduceSub, ↓reduceIte, eq_self], by simp only [B, F, Nat.reduceLT, Nat.reduceLeDiff, Nat.reduceEqDiff, Nat.reduceAdd, Nat.reduceMul, Nat.reduceSub, ↓reduceIte, eq_self], oq, by omega, k1, k3, k5, wl, l0, by rw [l1]; rfl, l2, l3, l4, l5, .none, fun _ => rfl⟩ (fun n ds tm1 hc hI => ?_)
    · intro k hk
      simp only [List.mem_cons, List.mem_nil_iff, or_false] at hk
      rcases hk with rfl | rfl | rfl | rfl | rfl | rfl | rfl | rfl | rfl <;> simp only [B, F, Nat.reduceLT, Nat.reduceLeDiff, Nat.reduceEqDiff, Nat.reduceAdd, Nat.reduceMul, Nat.reduceSub, ↓reduceIte, eq_self]
    clear l0 l1 l2 l3 l4 l5 wl k1 k3 k5
    obtain ⟨j, pv, hI⟩ := hI
    have hI0 := hI
    obtain ⟨rfl, rfl, jl, tt, q13, q14, q35, q36, q37, oc, nxc, k1, k3, k5, wl, l0, l1, l2, l3, l4, l5, gr2, nz2⟩ := hI
    have q1 : tm1.get 1 = some (.int .u64 (.ofNat m)) := by rw [tt _ (by simp)]; exact t1
    have q4 : tm1.get 4 = some (.ptr (h0.nx + 1) 0) := by rw [tt _ (by simp)]; exact t4
    have q6 : tm1.get 6 = some (.ptr (h0.nx + 2) 0) := by rw [tt _ (by simp)]; exact t6
    have q7 : tm1.get 7 = some .nilslice := by rw [tt _ (by simp)]; exact t7
    have q8 : tm1.get 8 = some (.ptr h2.nx 0) := by rw [tt _ (by simp)]; exact t8
    have q11 : tm1.get 11 = some (.bool is) := by rw [tt _ (by simp)]; exact t11
    have q26 : tm1.get 26 = some (.slice bs os X.length cap) := by rw [tt _ (by simp)]; exact t26
    have q27 : tm1.get 27 = some (.int .i64 (.ofNat X.length)) := by rw [tt _ (by simp)]; exact t27
    have q28 : tm1.get 28 = some (.int .i64 (.ofNat i)) := by rw [tt _ (by simp)]; exact t28
    have M0 := m0
    have M1 := m1
    first | replace M0 := kcell M0 oc (by omega) (by simp) | replace M0 := kwr M0 oc (by omega) (by simp)
    first | replace M1 := kcell M1 oc (by omega) (by simp) | replace M1 := kwr M1 oc (by omega) (by simp)
    by_cases hj : j < x.1.puts.length
    · have d2 : decide (j < x.1.puts.length) = true := decide_eq_true hj
      have lt2 : (j < x.1.puts.length) = True := by simp [hj]
      obtain ⟨r, hr⟩ : ∃ r, x.1.puts[j]? = some r := ⟨_, List.getElem?_eq_getElem hj⟩
      have hsl := (hhh.2 x hxm).only oc (fun _ _ => by simp)
      obtain ⟨bp, op, cap2, hx2, hbp, _⟩ := hsl.place (by omega)
      rw [hx2] at hsl q35
      obtain ⟨r0, r1⟩ := rvC_at hsl hr
      have w2 : wrapF .i64 (Int.ofNat j + Int.ofNat 1) = Int.ofNat (j + 1) := i64_add (by omega)
      have nb : (h2.nx = hc.nx) = False := by simp; omega
      have hlen2 := gr2.len (P := P) u29
      have nb1 : (h.nx = hc.nx) = False := by simp; omega
      have nb2 : (h.nx + 1 = hc.nx) = False := by simp; omega
      have nb3 : (hc.nx = h.nx) = False := by simp; omega
      have nb4 : (hc.nx = h.nx + 1) = False := by simp; omega
      have w1 : wrapF .u64 (Int.ofNat j) = Int.ofNat j := u64_nat (by omega)
      have wrD : ∀ l l', wrAt ((hc.newCells 35 l).sts hc.nx 0 l') (h.nx + 1) = true := fun l l' => by rw [wrAt_sts, wrAt_new, if_neg (by omega)]; exact wl
      cases qa : decide (r.1 ≤ m) with
      | true =>
        have qa' : decide (m < r.1) = false := decide_eq_false (by have := of_decide_eq_true qa; omega)
        rcases Bool.eq_false_or_eq_true is with his | his
        · rw [his] at q11
          cases qm : (decide (r.1 = mod.1) && decide (r.2 = mod.2)) with
          | true =>
            have hrm : r = mod := by
              simp only [Bool.and_eq_true, decide_eq_true_eq] at qm
              exact Prod.ext qm.1 qm.2
            have hkr : keepR is mod m r = true := by unfold keepR; rw [qa', his, hrm]; simp
            cases hle : leftPuts is mod m x.1 j with
            | nil =>
              have hlz : decide ((leftPuts is mod m x.1 j).length = 0) = true := by rw [hle]; rfl
              repeat' (first | ((with_reducible show codeW _ _ _ _ (codeI _ _) _ _ _ _); first | (apply st_seq; exact rfl) | (refine st_reg ?_ rfl rfl ?_; exact rfl; (conv => arg 4; whnf); (conv => arg 3; whnf)) | (refine st_cond ?_ rfl ?_; exact rfl; (conv => arg 1; arg 2; whnf)) | (refine st_block ?_ rfl ?_; exact rfl; (conv => arg 9; arg 1; whnf)) | (apply st_skip; exact rfl) | (refine st_exit ?_ rfl ?_; exact rfl; (conv in exitId _ => whnf)) | (apply st_ret; exact rfl)) | ((with_reducible refine retW_intro rfl ?_); (conv => arg 2; whnf)) | ((with_reducible first | refine iB (fun hb => ?_) (fun hb => ?_) | refine gWt (fun hb => ?_) (fun hb => ?_) | refine gWf (fun hb => ?_) (fun hb => ?_)) <;> (try simp only [hb])) | (simp only [B, F, Nat.reduceLT, Nat.reduceLeDiff, Nat.reduceEqDiff, Nat.reduceAdd, Nat.reduceMul, Nat.reduceSub, ↓reduceIte, eq_self, qa, qm, Bool.not_true, Bool.not_false, q1, q8, q11, q13, q14, q35, q36, q37, d2, lt2, r0, r1, M0, M1, nb, hlen2, q13, q14, k1, l0, l1, l2, l3, l4, l5, hlz, nb, nb1, nb2, nb3, nb4, wrAt_new, wrAt_sts, cellAt_sts (wrD _ _), put_sts, wl, u64_mod, w1]))
              obtain ⟨hd, hde⟩ : ∃ hd, hd = (((hc.newCells 35 [.int .u64 (.ofNat 0), .int .u64 (.ofNat 0)]).sts hc.nx 0 [.int .u64 (.ofNat r.1), .int .u64 (.ofNat r.2)]).sts (h.nx + 1) 1 [.int .u64 (.ofNat ((x.1.first + j) % M64))]).newCells 35 [.int .u64 (.ofNat r.1), .int .u64 (.ofNat r.2)] := ⟨_, rfl⟩
              rw [← hde]
              have xd : hd.nx = hc.nx + 2 := by rw [hde]; simp only [nx_sts, nx_new]
              have gd : ∀ b, b < hc.nx → b ≠ h.nx + 1 → hd.t.get b = hc.t.get b := fun b hb hne => by
                rw [hde, get_new _ _ _ (by simp only [nx_sts, nx_new]; omega), get_sts _ _ _ _ hne, get_sts _ _ _ _ (by omega), get_new _ _ _ (by omega)]
              have wd : wrAt hd (h.nx + 1) = true := by rw [hde, wrAt_new, if_neg (by simp only [nx_sts, nx_new]; omega), wrAt_sts]; exact wrD _ _
              have cd : ∀ k, cellAt hd (h.nx + 1) k = if k = 1 then some (.int .u64 (.ofNat ((x.1.first + j) % M64))) else cellAt hc (h.nx + 1) k := fun k => by
                rw [hde, cellAt_new, if_neg (by simp only [nx_sts, nx_new]; omega), cellAt_sts (wrD _ _)]
                by_cases q : k = 1
                · subst q; rw [if_pos ⟨rfl, Nat.le_refl _, by simp⟩, if_pos rfl]; rfl
                · rw [if_neg (by simp only [List.length_cons, List.length_nil]; omega), if_neg q, cellAt_of_get (get_sts _ _ _ _ (by omega)), cellAt_of_get (get_new _ _ _ (by omega))]
              refine exW_grows (base := h.nx + 2) (h := hd) (gr2.of_get (by omega) (fun b hb => by have := gr2.base hb; exact gd b (by omega) (by omega))) (by omega) (by omega) (by omega) rfl (by have := leftPuts_len is mod m x.1 j; omega) ?_
              intro v' h4 hg4 x4 old4 blk4
              rw [rvsC_snoc] at hg4
              have hpv : blkOf pv ≠ some (h.nx + 1) := fun q => by have := (gr2.base q).1; omega
              have w4' : wrAt h4 (h.nx + 1) = true := by rw [wrAt_of_get (old4 _ (by omega) hpv)]; exact wd
              have c4' : ∀ k, cellAt h4 (h.nx + 1) k = cellAt hd (h.nx + 1) k := cellAt_of_get (old4 _ (by omega) hpv)
              have z2 : cellAt h4 (h.nx + 1) 2 = some pv := by rw [c4', cd, if_neg (by omega)]; exact l2
              have hcv := hg4.cells
              have hov := hg4.one
              repeat' (first | ((with_reducible show codeW _ _ _ _ (codeI _ _) _ _ _ _); first | (apply st_seq; exact rfl) | (refine st_reg ?_ rfl rfl ?_; exact rfl; (conv => arg 4; whnf); (conv => arg 3; whnf)) | (refine st_cond ?_ rfl ?_; exact rfl; (conv => arg 1; arg 2; whnf)) | (refine st_block ?_ rfl ?_; exact rfl; (conv => arg 9; arg 1; whnf)) | (apply st_skip; exact rfl) | (refine st_exit ?_ rfl ?_; exact rfl; (conv in exitId _ => whnf)) | (apply st_ret; exact rfl)) | ((with_reducible refine retW_intro rfl ?_); (conv => arg 2; whnf)) | ((with_reducible first | refine iB (fun hb => ?_) (fun hb => ?_) | refine gWt (fun hb => ?_) (fun hb => ?_) | refine gWf (fun hb => ?_) (fun hb => ?_)) <;> (try simp only [hb])) | (simp only [B, F, Nat.reduceLT, Nat.reduceLeDiff, Nat.reduceEqDiff, Nat.reduceAdd, Nat.reduceMul, Nat.reduceSub, ↓reduceIte, eq_self, q14, q37, put_sts, w4', z2, hcv, hov, w2]))
              refine ⟨x.1.puts.length - (j + 1), by omega, j + 1, v', hI0.put hr hkr (by rw [nx_sts]; omega) (fun b hb hne hm => by rw [get_sts _ _ _ _ hne, old4 b (by omega) hm, gd b hb hne]) (by rw [wrAt_sts]; exact w4') (fun k n1 n2 => ?_) ?_ ?_
                (hg4.of_get (by rw [nx_sts]; exact Nat.le_refl _) (fun b hb => get_sts _ _ _ _ (by rw [blk4] at hb; cases hb; omega))) ?_ (by simp only [B, F, Nat.reduceLT, Nat.reduceLeDiff, Nat.reduceEqDiff, Nat.reduceAdd, Nat.reduceMul, Nat.reduceSub, ↓reduceIte, eq_self])⟩
              · rw [cellAt_sts w4', if_neg (by simp only [List.length_cons, List.length_nil]; omega), c4', cd, if_neg n1]
              · rw [cellAt_sts w4', if_neg (by simp only [List.length_cons, List.length_nil]; omega), c4', cd]; rw [if_pos rfl, leftFirst_keep0 hr hkr hle]
              · rw [cellAt_sts w4', if_pos ⟨rfl, Nat.le_refl _, by simp⟩]; rfl
              · intro k hk
                simp only [List.mem_cons, List.mem_nil_iff, or_false] at hk
                rcases hk with rfl | rfl | rfl | rfl | rfl | rfl | rfl | rfl | rfl | rfl | rfl | rfl | rfl <;> simp only [B, F, Nat.reduceLT, Nat.reduceLeDiff, Nat.reduceEqDiff, Nat.reduceAdd, Nat.reduceMul, Nat.reduceSub, ↓reduceIte, eq_self, q1, q4, q6, q7, q8, q11, q26, q27, q28, q13, q14, q35, q36]
            | cons ra rl => 
              have hlz : decide ((leftPuts is mod m x.1 j).length = 0) = false := decide_eq_false (by rw [hle]; simp)
              repeat' (first | ((with_reducible show codeW _ _ _ _ (codeI _ _) _ _ _ _); first | (apply st_seq; exact rfl) | (refine st_reg ?_ rfl rfl ?_; exact rfl; (conv => arg 4; whnf); (conv => arg 3; whnf)) | (refine st_cond ?_ rfl ?_; exact rfl; (conv => arg 1; arg 2; whnf)) | (refine st_block ?_ rfl ?_; exact rfl; (conv => arg 9; arg 1; whnf)) | (apply st_skip; exact rfl) | (refine st_exit ?_ rfl ?_; exact rfl; (conv in exitId _ => whnf)) | (apply st_ret; exact rfl)) | ((with_reducible refine retW_intro rfl ?_); (conv => arg 2; whnf)) | ((with_reducible first | refine iB (fun hb => ?_) (fun hb => ?_) | refine gWt (fun hb => ?_) (fun hb => ?_) | refine gWf (fun hb => ?_) (fun hb => ?_)) <;> (try simp only [hb])) | (simp only [B, F, Nat.reduceLT, Nat.reduceLeDiff, Nat.reduceEqDiff, Nat.reduceAdd, Nat.reduceMul, Nat.reduceSub, ↓reduceIte, eq_self, qa, qm, Bool.not_true, Bool.not_false, q1, q8, q11, q13, q14, q35, q36, q37, d2, lt2, r0, r1, M0, M1, nb, hlen2, q13, q14, k1, l0, l1, l2, l3, l4, l5, hlz, nb, nb1, nb2, nb3, nb4, wrAt_new, wrAt_sts]))
              obtain ⟨hd, hde⟩ : ∃ hd, hd = ((hc.newCells 35 [.int .u64 (.ofNat 0), .int .u64 (.ofNat 0)]).sts hc.nx 0 [.int .u64 (.ofNat r.1), .int .u64 (.ofNat r.2)]).newCells 35 [.int .u64 (.ofNat r.1), .int .u64 (.ofNat r.2)] := ⟨_, rfl⟩
              rw [← hde]
              have xd : hd.nx = hc.nx + 2 := by rw [hde]; simp only [nx_sts, nx_new]
              have gd : ∀ b, b < hc.nx → b ≠ h.nx + 1 → hd.t.get b = hc.t.get b := fun b hb hne => by
                rw [hde, get_new _ _ _ (by simp only [nx_sts, nx_new]; omega), get_sts _ _ _ _ (by omega), get_new _ _ _ (by omega)]
              have cd : ∀ k, cellAt hd (h.nx + 1) k = cellAt hc (h.nx + 1) k := fun k => by
                rw [hde, cellAt_new, if_neg (by simp only [nx_sts, nx_new]; omega), cellAt_of_get (get_sts _ _ _ _ (by omega)), cellAt_of_get (get_new _ _ _ (by omega))]
              have wd : wrAt hd (h.nx + 1) = true := by rw [hde, wrAt_new, if_neg (by simp only [nx_sts, nx_new]; omega)]; exact wrD _ _
              refine exW_grows (base := h.nx + 2) (h := hd) (gr2.of_get (by omega) (fun b hb => by have := gr2.base hb; exact gd b (by omega) (by omega))) (by omega) (by omega) (by omega) rfl (by have := leftPuts_len is mod m x.1 j; omega) ?_
              intro v' h4 hg4 x4 old4 blk4
              rw [rvsC_snoc] at hg4
              have hpv : blkOf pv ≠ some (h.nx + 1) := fun q => by have := (gr2.base q).1; omega
              have w4' : wrAt h4 (h.nx + 1) = true := by rw [wrAt_of_get (old4 _ (by omega) hpv)]; exact wd
              have c4' : ∀ k, cellAt h4 (h.nx + 1) k = cellAt hd (h.nx + 1) k := cellAt_of_get (old4 _ (by omega) hpv)
              have z2 : cellAt h4 (h.nx + 1) 2 = some pv := by rw [c4', cd]; exact l2
              have hcv := hg4.cells
              have hov := hg4.one
              repeat' (first | ((with_reducible show codeW _ _ _ _ (codeI _ _) _ _ _ _); first | (apply st_seq; exact rfl) | (refine st_reg ?_ rfl rfl ?_; exact rfl; (conv => arg 4; whnf); (conv => arg 3; whnf)) | (refine st_cond ?_ rfl ?_; exact rfl; (conv => arg 1; arg 2; whnf)) | (refine st_block ?_ rfl ?_; exact rfl; (conv => arg 9; arg 1; whnf)) | (apply st_skip; exact rfl) | (refine st_exit ?_ rfl ?_; exact rfl; (conv in exitId _ => whnf)) | (apply st_ret; exact rfl)) | ((with_reducible refine retW_intro rfl ?_); (conv => arg 2; whnf)) | ((with_reducible first | refine iB (fun hb => ?_) (fun hb => ?_) | refine gWt (fun hb => ?_) (fun hb => ?_) | refine gWf (fun hb => ?_) (fun hb => ?_)) <;> (try simp only [hb])) | (simp only [B, F, Nat.reduceLT, Nat.reduceLeDiff, Nat.reduceEqDiff, Nat.reduceAdd, Nat.reduceMul, Nat.reduceSub, ↓reduceIte, eq_self, q14, q37, put_sts, w4', z2, hcv, hov, w2]))
              refine ⟨x.1.puts.length - (j + 1), by omega, j + 1, v', hI0.put hr hkr (by rw [nx_sts]; omega) (fun b hb hne hm => by rw [get_sts _ _ _ _ hne, old4 b (by omega) hm, gd b hb hne]) (by rw [wrAt_sts]; exact w4') (fun k n1 n2 => ?_) ?_ ?_
                (hg4.of_get (by rw [nx_sts]; exact Nat.le_refl _) (fun b hb => get_sts _ _ _ _ (by rw [blk4] at hb; cases hb; omega))) ?_ (by simp only [B, F, Nat.reduceLT, Nat.reduceLeDiff, Nat.reduceEqDiff, Nat.reduceAdd, Nat.reduceMul, Nat.reduceSub, ↓reduceIte, eq_self])⟩
              · rw [cellAt_sts w4', if_neg (by simp only [List.length_cons, List.length_nil]; omega), c4', cd]
              · rw [cellAt_sts w4', if_neg (by simp only [List.length_cons, List.length_nil]; omega), c4', cd]; rw [leftFirst_keep1 hr hkr (by rw [hle]; simp)]; exact l1
              · rw [cellAt_sts w4', if_pos ⟨rfl, Nat.le_refl _, by simp⟩]; rfl
              · intro k hk
                simp only [List.mem_cons, List.mem_nil_iff, or_false] at hk
                rcases hk with rfl | rfl | rfl | rfl | rfl | rfl | rfl | rfl | rfl | rfl | rfl | rfl | rfl <;> simp only [B, F, Nat.reduceLT, Nat.reduceLeDiff, Nat.reduceEqDiff, Nat.reduceAdd, Nat.reduceMul, Nat.reduceSub, ↓reduceIte, eq_self, q1, q4, q6, q7, q8, q11, q26, q27, q28, q13, q14, q35, q36]
          | false =>
            have hkr : keepR is mod m r = false := by
              unfold keepR; rw [qa', his, Bool.false_or, Bool.true_and, decide_eq_false]
              rintro rfl
              simp at qm
            repeat' (first | ((with_reducible show codeW _ _ _ _ (codeI _ _) _ _ _ _); first | (apply st_seq; exact rfl) | (refine st_reg ?_ rfl rfl ?_; exact rfl; (conv => arg 4; whnf); (conv => arg 3; whnf)) | (refine st_cond ?_ rfl ?_; exact rfl; (conv => arg 1; arg 2; whnf)) | (refine st_block ?_ rfl ?_; exact rfl; (conv => arg 9; arg 1; whnf)) | (apply st_skip; exact rfl) | (refine st_exit ?_ rfl ?_; exact rfl; (conv in exitId _ => whnf)) | (apply st_ret; exact rfl)) | ((with_reducible refine retW_intro rfl ?_); (conv => arg 2; whnf)) | ((with_reducible first | refine iB (fun hb => ?_) (fun hb => ?_) | refine gWt (fun hb => ?_) (fun hb => ?_) | refine gWf (fun hb => ?_) (fun hb => ?_)) <;> (try simp only [hb])) | (simp only [B, F, Nat.reduceLT, Nat.reduceLeDiff, Nat.reduceEqDiff, Nat.reduceAdd, Nat.reduceMul, Nat.reduceSub, ↓reduceIte, eq_self, qa, qm, Bool.not_true, Bool.not_false, q1, q8, q11, q13, q14, q35, q36, q37, d2, lt2, r0, r1, M0, M1, nb]))
            refine ⟨x.1.puts.length - (j + 1), by omega, j + 1, pv, hI0.skip ((((Only.refl _ _).new _ _).sts (.inr (Nat.le_refl _)))) hr hkr ?_ (by simp only [B, F, Nat.reduceLT, Nat.reduceLeDiff, Nat.reduceEqDiff, Nat.reduceAdd, Nat.reduceMul, Nat.reduceSub, ↓reduceIte, eq_self, q37, w2])⟩
            intro k hk
            simp only [List.mem_cons, List.mem_nil_iff, or_false] at hk
            rcases hk with rfl | rfl | rfl | rfl | rfl | rfl | rfl | rfl | rfl | rfl | rfl | rfl | rfl <;> simp only [B, F, Nat.reduceLT, Nat.reduceLeDiff, Nat.reduceEqDiff, Nat.reduceAdd, Nat.reduceMul, Nat.reduceSub, ↓reduceIte, eq_self, q1, q4, q6, q7, q8, q11, q26, q27, q28, q13, q14, q35, q36]
        · rw [his] at q11
          have hkr : keepR is mod m r = false := by unfold keepR; rw [qa', his]; rfl
          repeat' (first | ((with_reducible show codeW _ _ _ _ (codeI _ _) _ _ _ _); first | (apply st_seq; exact rfl) | (refine st_reg ?_ rfl rfl ?_; exact rfl; (conv => arg 4; whnf); (conv => arg 3; whnf)) | (refine st_cond ?_ rfl ?_; exact rfl; (conv => arg 1; arg 2; whnf)) | (refine st_block ?_ rfl ?_; exact rfl; (conv => arg 9; arg 1; whnf)) | (apply st_skip; exact rfl) | (refine st_exit ?_ rfl ?_; exact rfl; (conv in exitId _ => whnf)) | (apply st_ret; exact rfl)) | ((with_reducible refine retW_intro rfl ?_); (conv => arg 2; whnf)) | ((with_reducible first | refine iB (fun hb => ?_) (fun hb => ?_) | refine gWt (fun hb => ?_) (fun hb => ?_) | refine gWf (fun hb => ?_) (fun hb => ?_)) <;> (try simp only [hb])) | (simp only [B, F, Nat.reduceLT, Nat.reduceLeDiff, Nat.reduceEqDiff, Nat.reduceAdd, Nat.reduceMul, Nat.reduceSub, ↓reduceIte, eq_self, q1, q8, q11, q13, q14, q35, q36, q37, d2, lt2, r0, r1, qa, w2]))
          refine ⟨x.1.puts.length - (j + 1), by omega, j + 1, pv, hI0.skip ((((Only.refl _ _).new _ _).sts (.inr (Nat.le_refl _)))) hr hkr ?_ (by simp only [B, F, Nat.reduceLT, Nat.reduceLeDiff, Nat.reduceEqDiff, Nat.reduceAdd, Nat.reduceMul, Nat.reduceSub, ↓reduceIte, eq_self, q37, w2])⟩
          intro k hk
          simp only [List.mem_cons, List.mem_nil_iff, or_false] at hk
          rcases hk with rfl | rfl | rfl | rfl | rfl | rfl | rfl | rfl | rfl | rfl | rfl | rfl | rfl <;> simp only [B, F, Nat.reduceLT, Nat.reduceLeDiff, Nat.reduceEqDiff, Nat.reduceAdd, Nat.reduceMul, Nat.reduceSub, ↓reduceIte, eq_self, q1, q4, q6, q7, q8, q11, q26, q27, q28, q13, q14, q35, q36]
      | false =>
        have hkr : keepR is mod m r = true := by unfold keepR; rw [decide_eq_true (by have := of_decide_eq_false qa; omega)]; rfl
        cases hle : leftPuts is mod m x.1 j with
        | nil =>
          have hlz : decide ((leftPuts is mod m x.1 j).length = 0) = true := by rw [hle]; rfl
          repeat' (first | ((with_reducible show codeW _ _ _ _ (codeI _ _) _ _ _ _); first | (apply st_seq; exact rfl) | (refine st_reg ?_ rfl rfl ?_; exact rfl; (conv => arg 4; whnf); (conv => arg 3; whnf)) | (refine st_cond ?_ rfl ?_; exact rfl; (conv => arg 1; arg 2; whnf)) | (refine st_block ?_ rfl ?_; exact rfl; (conv => arg 9; arg 1; whnf)) | (apply st_skip; exact rfl) | (refine st_exit ?_ rfl ?_; exact rfl; (conv in exitId _ => whnf)) | (apply st_ret; exact rfl)) | ((with_reducible refine retW_intro rfl ?_); (conv => arg 2; whnf)) | ((with_reducible first | refine iB (fun hb => ?_) (fun hb => ?_) | refine gWt (fun hb => ?_) (fun hb => ?_) | refine gWf (fun hb => ?_) (fun hb => ?_)) <;> (try simp only [hb])) | (simp only [B, F, Nat.reduceLT, Nat.reduceLeDiff, Nat.reduceEqDiff, Nat.reduceAdd, Nat.reduceMul, Nat.reduceSub, ↓reduceIte, eq_self, qa, q1, q8, q11, q13, q14, q35, q36, q37, d2, lt2, r0, r1, M0, M1, nb, hlen2, q13, q14, k1, l0, l1, l2, l3, l4, l5, hlz, nb, nb1, nb2, nb3, nb4, wrAt_new, wrAt_sts, cellAt_sts (wrD _ _), put_sts, wl, u64_mod, w1]))
          obtain ⟨hd, hde⟩ : ∃ hd, hd = (((hc.newCells 35 [.int .u64 (.ofNat 0), .int .u64 (.ofNat 0)]).sts hc.nx 0 [.int .u64 (.ofNat r.1), .int .u64 (.ofNat r.2)]).sts (h.nx + 1) 1 [.int .u64 (.ofNat ((x.1.first + j) % M64))]).newCells 35 [.int .u64 (.ofNat r.1), .int .u64 (.ofNat r.2)] := ⟨_, rfl⟩
          rw [← hde]
          have xd : hd.nx = hc.nx + 2 := by rw [hde]; simp only [nx_sts, nx_new]
          have gd : ∀ b, b < hc.nx → b ≠ h.nx + 1 → hd.t.get b = hc.t.get b := fun b hb hne => by
            rw [hde, get_new _ _ _ (by simp only [nx_sts, nx_new]; omega), get_sts _ _ _ _ hne, get_sts _ _ _ _ (by omega), get_new _ _ _ (by omega)]
          have wd : wrAt hd (h.nx + 1) = true := by rw [hde, wrAt_new, if_neg (by simp only [nx_sts, nx_new]; omega), wrAt_sts]; exact wrD _ _
          have cd : ∀ k, cellAt hd (h.nx + 1) k = if k = 1 then some (.int .u64 (.ofNat ((x.1.first + j) % M64))) else cellAt hc (h.nx + 1) k := fun k => by
            rw [hde, cellAt_new, if_neg (by simp only [nx_sts, nx_new]; omega), cellAt_sts (wrD _ _)]
            by_cases q : k = 1
            · subst q; rw [if_pos ⟨rfl, Nat.le_refl _, by simp⟩, if_pos rfl]; rfl
            · rw [if_neg (by simp only [List.length_cons, List.length_nil]; omega), if_neg q, cellAt_of_get (get_sts _ _ _ _ (by omega)), cellAt_of_get (get_new _ _ _ (by omega))]
          refine exW_grows (base := h.nx + 2) (h := hd) (gr2.of_get (by omega) (fun b hb => by have := gr2.base hb; exact gd b (by omega) (by omega))) (by omega) (by omega) (by omega) rfl (by have := leftPuts_len is mod m x.1 j; omega) ?_
          intro v' h4 hg4 x4 old4 blk4
          rw [rvsC_snoc] at hg4
          have hpv : blkOf pv ≠ some (h.nx + 1) := fun q => by have := (gr2.base q).1; omega
          have w4' : wrAt h4 (h.nx + 1) = true := by rw [wrAt_of_get (old4 _ (by omega) hpv)]; exact wd
          have c4' : ∀ k, cellAt h4 (h.nx + 1) k = cellAt hd (h.nx + 1) k := cellAt_of_get (old4 _ (by omega) hpv)
          have z2 : cellAt h4 (h.nx + 1) 2 = some pv := by rw [c4', cd, if_neg (by omega)]; exact l2
          have hcv := hg4.cells
          have hov := hg4.one
          repeat' (first | ((with_reducible show codeW _ _ _ _ (codeI _ _) _ _ _ _); first | (apply st_seq; exact rfl) | (refine st_reg ?_ rfl rfl ?_; exact rfl; (conv => arg 4; whnf); (conv => arg 3; whnf)) | (refine st_cond ?_ rfl ?_; exact rfl; (conv => arg 1; arg 2; whnf)) | (refine st_block ?_ rfl ?_; exact rfl; (conv => arg 9; arg 1; whnf)) | (apply st_skip; exact rfl) | (refine st_exit ?_ rfl ?_; exact rfl; (conv in exitId _ => whnf)) | (apply st_ret; exact rfl)) | ((with_reducible refine retW_intro rfl ?_); (conv => arg 2; whnf)) | ((with_reducible first | refine iB (fun hb => ?_) (fun hb => ?_) | refine gWt (fun hb => ?_) (fun hb => ?_) | refine gWf (fun hb => ?_) (fun hb => ?_)) <;> (try simp only [hb])) | (simp only [B, F, Nat.reduceLT, Nat.reduceLeDiff, Nat.reduceEqDiff, Nat.reduceAdd, Nat.reduceMul, Nat.reduceSub, ↓reduceIte, eq_self, q14, q37, put_sts, w4', z2, hcv, hov, w2]))
          refine ⟨x.1.puts.length - (j + 1), by omega, j + 1, v', hI0.put hr hkr (by rw [nx_sts]; omega) (fun b hb hne hm => by rw [get_sts _ _ _ _ hne, old4 b (by omega) hm, gd b hb hne]) (by rw [wrAt_sts]; exact w4') (fun k n1 n2 => ?_) ?_ ?_
            (hg4.of_get (by rw [nx_sts]; exact Nat.le_refl _) (fun b hb => get_sts _ _ _ _ (by rw [blk4] at hb; cases hb; omega))) ?_ (by simp only [B, F, Nat.reduceLT, Nat.reduceLeDiff, Nat.reduceEqDiff, Nat.reduceAdd, Nat.reduceMul, Nat.reduceSub, ↓reduceIte, eq_self])⟩
          · rw [cellAt_sts w4', if_neg (by simp only [List.length_cons, List.length_nil]; omega), c4', cd, if_neg n1]
          · rw [cellAt_sts w4', if_neg (by simp only [List.length_cons, List.length_nil]; omega), c4', cd]; rw [if_pos rfl, leftFirst_keep0 hr hkr hle]
          · rw [cellAt_sts w4', if_pos ⟨rfl, Nat.le_refl _, by simp⟩]; rfl
          · intro k hk
            simp only [List.mem_cons, List.mem_nil_iff, or_false] at hk
            rcases hk with rfl | rfl | rfl | rfl | rfl | rfl | rfl | rfl | rfl | rfl | rfl | rfl | rfl <;> simp only [B, F, Nat.reduceLT, Nat.reduceLeDiff, Nat.reduceEqDiff, Nat.reduceAdd, Nat.reduceMul, Nat.reduceSub, ↓reduceIte, eq_self, q1, q4, q6, q7, q8, q11, q26, q27, q28, q13, q14, q35, q36]
        | cons ra rl => 
          have hlz : decide ((leftPuts is mod m x.1 j).length = 0) = false := decide_eq_false (by rw [hle]; simp)
          repeat' (first | ((with_reducible show codeW _ _ _ _ (codeI _ _) _ _ _ _); first | (apply st_seq; exact rfl) | (refine st_reg ?_ rfl rfl ?_; exact rfl; (conv => arg 4; whnf); (conv => arg 3; whnf)) | (refine st_cond ?_ rfl ?_; exact rfl; (conv => arg 1; arg 2; whnf)) | (refine st_block ?_ rfl ?_; exact rfl; (conv => arg 9; arg 1; whnf)) | (apply st_skip; exact rfl) | (refine st_exit ?_ rfl ?_; exact rfl; (conv in exitId _ => whnf)) | (apply st_ret; exact rfl)) | ((with_reducible refine retW_intro rfl ?_); (conv => arg 2; whnf)) | ((with_reducible first | refine iB (fun hb => ?_) (fun hb => ?_) | refine gWt (fun hb => ?_) (fun hb => ?_) | refine gWf (fun hb => ?_) (fun hb => ?_)) <;> (try simp only [hb])) | (simp only [B, F, Nat.reduceLT, Nat.reduceLeDiff, Nat.reduceEqDiff, Nat.reduceAdd, Nat.reduceMul, Nat.reduceSub, ↓reduceIte, eq_self, qa, q1, q8, q11, q13, q14, q35, q36, q37, d2, lt2, r0, r1, M0, M1, nb, hlen2, q13, q14, k1, l0, l1, l2, l3, l4, l5, hlz, nb, nb1, nb2, nb3, nb4, wrAt_new, wrAt_sts]))
          obtain ⟨hd, hde⟩ : ∃ hd, hd = ((hc.newCells 35 [.int .u64 (.ofNat 0), .int .u64 (.ofNat 0)]).sts hc.nx 0 [.int .u64 (.ofNat r.1), .int .u64 (.ofNat r.2)]).newCells 35 [.int .u64 (.ofNat r.1), .int .u64 (.ofNat r.2)] := ⟨_, rfl⟩
          rw [← hde]
          have xd : hd.nx = hc.nx + 2 := by rw [hde]; simp only [nx_sts, nx_new]
          have gd : ∀ b, b < hc.nx → b ≠ h.nx + 1 → hd.t.get b = hc.t.get b := fun b hb hne => by
            rw [hde, get_new _ _ _ (by simp only [nx_sts, nx_new]; omega), get_sts _ _ _ _ (by omega), get_new _ _ _ (by omega)]
          have cd : ∀ k, cellAt hd (h.nx + 1) k = cellAt hc (h.nx + 1) k := fun k => by
            rw [hde, cellAt_new, if_neg (by simp only [nx_sts, nx_new]; omega), cellAt_of_get (get_sts _ _ _ _ (by omega)), cellAt_of_get (get_new _ _ _ (by omega))]
          have wd : wrAt hd (h.nx + 1) = true := by rw [hde, wrAt_new, if_neg (by simp only [nx_sts, nx_new]; omega)]; exact wrD _ _
          refine exW_grows (base := h.nx + 2) (h := hd) (gr2.of_get (by omega) (fun b hb => by have := gr2.base hb; exact gd b (by omega) (by omega))) (by omega) (by omega) (by omega) rfl (by have := leftPuts_len is mod m x.1 j; omega) ?_
          intro v' h4 hg4 x4 old4 blk4
          rw [rvsC_snoc] at hg4
          have hpv : blkOf pv ≠ some (h.nx + 1) := fun q => by have := (gr2.base q).1; omega
          have w4' : wrAt h4 (h.nx + 1) = true := by rw [wrAt_of_get (old4 _ (by omega) hpv)]; exact wd
          have c4' : ∀ k, cellAt h4 (h.nx + 1) k = cellAt hd (h.nx + 1) k := cellAt_of_get (old4 _ (by omega) hpv)
          have z2 : cellAt h4 (h.nx + 1) 2 = some pv := by rw [c4', cd]; exact l2
          have hcv := hg4.cells
          have hov := hg4.one
          repeat' (first | ((with_reducible show codeW _ _ _ _ (codeI _ _) _ _ _ _); first | (apply st_seq; exact rfl) | (refine st_reg ?_ rfl rfl ?_; exact rfl; (conv => arg 4; whnf); (conv => arg 3; whnf)) | (refine st_cond ?_ rfl ?_; exact rfl; (conv => arg 1; arg 2; whnf)) | (refine st_block ?_ rfl ?_; exact rfl; (conv => arg 9; arg 1; whnf)) | (apply st_skip; exact rfl) | (refine st_exit ?_ rfl ?_; exact rfl; (conv in exitId _ => whnf)) | (apply st_ret; exact rfl)) | ((with_reducible refine retW_intro rfl ?_); (conv => arg 2; whnf)) | ((with_reducible first | refine iB (fun hb => ?_) (fun hb => ?_) | refine gWt (fun hb => ?_) (fun hb => ?_) | refine gWf (fun hb => ?_) (fun hb => ?_)) <;> (try simp only [hb])) | (simp only [B, F, Nat.reduceLT, Nat.reduceLeDiff, Nat.reduceEqDiff, Nat.reduceAdd, Nat.reduceMul, Nat.reduceSub, ↓reduceIte, eq_self, q14, q37, put_sts, w4', z2, hcv, hov, w2]))
          refine ⟨x.1.puts.length - (j + 1), by omega, j + 1, v', hI0.put hr hkr (by rw [nx_sts]; omega) (fun b hb hne hm => by rw [get_sts _ _ _ _ hne, old4 b (by omega) hm, gd b hb hne]) (by rw [wrAt_sts]; exact w4') (fun k n1 n2 => ?_) ?_ ?_
            (hg4.of_get (by rw [nx_sts]; exact Nat.le_refl _) (fun b hb => get_sts _ _ _ _ (by rw [blk4] at hb; cases hb; omega))) ?_ (by simp only [B, F, Nat.reduceLT, Nat.reduceLeDiff, Nat.reduceEqDiff, Nat.reduceAdd, Nat.reduceMul, Nat.reduceSub, ↓reduceIte, eq_self])⟩
          · rw [cellAt_sts w4', if_neg (by simp only [List.length_cons, List.length_nil]; omega), c4', cd]
          · rw [cellAt_sts w4', if_neg (by simp only [List.length_cons, List.length_nil]; omega), c4', cd]; rw [leftFirst_keep1 hr hkr (by rw [hle]; simp)]; exact l1
          · rw [cellAt_sts w4', if_pos ⟨rfl, Nat.le_refl _, by simp⟩]; rfl
          · intro k hk
            simp only [List.mem_cons, List.mem_nil_iff, or_false] at hk
            rcases hk with rfl | rfl | rfl | rfl | rfl | rfl | rfl | rfl | rfl | rfl | rfl | rfl | rfl <;> simp only [B, F, Nat.reduceLT, Nat.reduceLeDiff, Nat.reduceEqDiff, Nat.reduceAdd, Nat.reduceMul, Nat.reduceSub, ↓reduceIte, eq_self, q1, q4, q6, q7, q8, q11, q26, q27, q28, q13, q14, q35, q36]
    · have d2 : decide (j < x.1.puts.length) = false := decide_eq_false hj
      have hje : j = x.1.puts.length := by omega
      subst hje
      have hlen2 := gr2.len (P := P) u29
      have w2 : wrapF .i64 (Int.ofNat i + Int.ofNat 1) = Int.ofNat (i + 1) := i64_add (by omega)
      have C6 := c6
      have W6 := w6
      have x0 := oo.1
      first | replace C6 := kcell C6 oc (by omega) (by simp) | replace C6 := kwr C6 oc (by omega) (by simp)
      first | replace W6 := kcell W6 oc (by omega) (by simp) | replace W6 := kwr W6 oc (by omega) (by simp)
      have hpo := gr2.one
      have nb6 : (h0.nx + 2 = hc.nx) = False := by simp; omega
      have hX'l : X'.length ≤ 1000 := by
        have e1 : X'.length = (gs X').length := by unfold gs; rw [List.length_map]
        rw [e1, ex]
        refine Nat.le_trans (List.length_filterMap_le _ _) ?_
        unfold gs; rw [List.length_map, List.length_take]; omega
      cases he : x.1.ended with
      | true =>
        rw [he] at k5 l5
        cases qe : decide (x.1.en.1 ≤ m) with
        | true =>
          have hcg : compG is mod m x.1 = none := by unfold compG; rw [he, qe]; rfl
          repeat' (first | ((with_reducible show codeW _ _ _ _ (codeI _ _) _ _ _ _); first | (apply st_seq; exact rfl) | (refine st_reg ?_ rfl rfl ?_; exact rfl; (conv => arg 4; whnf); (conv => arg 3; whnf)) | (refine st_cond ?_ rfl ?_; exact rfl; (conv => arg 1; arg 2; whnf)) | (refine st_block ?_ rfl ?_; exact rfl; (conv => arg 9; arg 1; whnf)) | (apply st_skip; exact rfl) | (refine st_exit ?_ rfl ?_; exact rfl; (conv in exitId _ => whnf)) | (apply st_ret; exact rfl)) | ((with_reducible refine retW_intro rfl ?_); (conv => arg 2; whnf)) | ((with_reducible first | refine iB (fun hb => ?_) (fun hb => ?_) | refine gWt (fun hb => ?_) (fun hb => ?_) | refine gWf (fun hb => ?_) (fun hb => ?_)) <;> (try simp only [hb])) | (simp only [B, F, Nat.reduceLT, Nat.reduceLeDiff, Nat.reduceEqDiff, Nat.reduceAdd, Nat.reduceMul, Nat.reduceSub, ↓reduceIte, eq_self, q1, q4, q6, q7, q8, q11, q13, q14, q26, q27, q28, q36, q37, d2, k3, k5, qe, hlen2, l2, w2]))
          refine ⟨X.length - (i + 1), by omega, i + 1, X', ov, hC.skip oc hx hcg ?_ (by simp only [B, F, Nat.reduceLT, Nat.reduceLeDiff, Nat.reduceEqDiff, Nat.reduceAdd, Nat.reduceMul, Nat.reduceSub, ↓reduceIte, eq_self])⟩
          intro k hk
          simp only [List.mem_cons, List.mem_nil_iff, or_false] at hk
          rcases hk with rfl | rfl | rfl | rfl | rfl | rfl | rfl | rfl <;> simp only [B, F, Nat.reduceLT, Nat.reduceLeDiff, Nat.reduceEqDiff, Nat.reduceAdd, Nat.reduceMul, Nat.reduceSub, ↓reduceIte, eq_self, q1, q4, q6, q7, q8, q11, q26, q27, t1, t4, t6, t7, t8, t11, t26, t27]
        | false =>
          cases hlz : decide (0 < (leftPuts is mod m x.1 x.1.puts.length).length) with
          | true =>
            have hcg : compG is mod m x.1 = some { x.1 with first := leftFirst is mod m x.1 x.1.puts.length, puts := leftPuts is mod m x.1 x.1.puts.length } := by
              unfold compG leftPuts
              rw [List.take_length]; rw [he, qe]; simp [he]
            repeat' (first | ((with_reducible show codeW _ _ _ _ (codeI _ _) _ _ _ _); first | (apply st_seq; exact rfl) | (refine st_reg ?_ rfl rfl ?_; exact rfl; (conv => arg 4; whnf); (conv => arg 3; whnf)) | (refine st_cond ?_ rfl ?_; exact rfl; (conv => arg 1; arg 2; whnf)) | (refine st_block ?_ rfl ?_; exact rfl; (conv => arg 9; arg 1; whnf)) | (apply st_skip; exact rfl) | (refine st_exit ?_ rfl ?_; exact rfl; (conv in exitId _ => whnf)) | (apply st_ret; exact rfl)) | ((with_reducible refine retW_intro rfl ?_); (conv => arg 2; whnf)) | ((with_reducible first | refine iB (fun hb => ?_) (fun hb => ?_) | refine gWt (fun hb => ?_) (fun hb => ?_) | refine gWf (fun hb => ?_) (fun hb => ?_)) <;> (try simp only [hb])) | (simp only [B, F, Nat.reduceLT, Nat.reduceLeDiff, Nat.reduceEqDiff, Nat.reduceAdd, Nat.reduceMul, Nat.reduceSub, ↓reduceIte, eq_self, q1, q4, q6, q7, q8, q11, q13, q14, q26, q27, q28, q36, q37, d2, k3, k5, qe, hlz, hlen2, l0, l1, l2, l3, l4, l5, C6, hpo, nb6]))
            obtain ⟨hd, hde⟩ : ∃ hd, hd = hc.newCells 87 [.int .u64 (.ofNat x.1.made), .int .u64 (.ofNat (leftFirst is mod m x.1 x.1.puts.length)), pv, .int .u64 (.ofNat x.1.en.1), .int .u64 (.ofNat x.1.en.2), .bool true] := ⟨_, rfl⟩
            rw [← hde]
            have xd : hd.nx = hc.nx + 1 := by rw [hde]; simp only [nx_new]
            have gd : ∀ b, b < hc.nx → hd.t.get b = hc.t.get b := fun b hb => by rw [hde, get_new _ _ _ (by omega)]
            refine exW_grows (base := h2.nx + 1) (h := hd) (gr.of_get (by omega) (fun b hb => by have := gr.base hb; rw [gd b (by omega)]; exact oc.2 b this.2 (by simp))) (by omega) (by omega) (by omega) rfl (by omega) ?_
            intro v' h4 hg4 x4 old4 blk4
            have hov : ∀ b, b ≤ h2.nx → blkOf ov ≠ some b := fun b hb q => by have := (gr.base q).1; omega
            have w4' : wrAt h4 (h0.nx + 2) = true := by rw [wrAt_of_get (old4 _ (by omega) (hov _ (by omega))), wrAt_of_get (gd _ (by omega))]; exact W6
            have z2 : cellAt h4 (h0.nx + 2) 0 = some ov := by rw [cellAt_of_get (old4 _ (by omega) (hov _ (by omega))), cellAt_of_get (gd _ (by omega))]; exact C6
            have hcv := hg4.cells
            have hov1 := hg4.one
            repeat' (first | ((with_reducible show codeW _ _ _ _ (codeI _ _) _ _ _ _); first | (apply st_seq; exact rfl) | (refine st_reg ?_ rfl rfl ?_; exact rfl; (conv => arg 4; whnf); (conv => arg 3; whnf)) | (refine st_cond ?_ rfl ?_; exact rfl; (conv => arg 1; arg 2; whnf)) | (refine st_block ?_ rfl ?_; exact rfl; (conv => arg 9; arg 1; whnf)) | (apply st_skip; exact rfl) | (refine st_exit ?_ rfl ?_; exact rfl; (conv in exitId _ => whnf)) | (apply st_ret; exact rfl)) | ((with_reducible refine retW_intro rfl ?_); (conv => arg 2; whnf)) | ((with_reducible first | refine iB (fun hb => ?_) (fun hb => ?_) | refine gWt (fun hb => ?_) (fun hb => ?_) | refine gWf (fun hb => ?_) (fun hb => ?_)) <;> (try simp only [hb])) | (simp only [B, F, Nat.reduceLT, Nat.reduceLeDiff, Nat.reduceEqDiff, Nat.reduceAdd, Nat.reduceMul, Nat.reduceSub, ↓reduceIte, eq_self, q6, q28, put_sts, w4', z2, hcv, hov1, w2]))
            have hpv := fun b (hb : blkOf pv = some b) => gr2.base hb
            have hovp : ∀ b, blkOf pv = some b → blkOf ov ≠ some b := fun b hb q => by have h1 := gr2.base hb; have h2 := gr.base q; omega
            have hgq := hg4.of_get (h' := h4.sts (h0.nx + 2) 0 [v']) (by rw [nx_sts]; exact Nat.le_refl _) (fun b hb => get_sts _ _ _ _ (by rw [blk4] at hb; cases hb; omega))
            refine ⟨X.length - (i + 1), by omega, i + 1, _, v', hC.put (h' := h4.sts (h0.nx + 2) 0 [v']) (pv := pv) (bn := hd.nx) hx hcg (by rw [nx_sts]; omega) (fun b hb n1 n2 => ?_) (by rw [wrAt_sts]; exact w4') ?_ (by rw [← he] at hgq; exact hgq) blk4 (by omega)
              ?_ nz2 (fun b hb => ⟨by have := hpv b hb; omega, by have := hpv b hb; omega⟩) ?_ (by simp only [B, F, Nat.reduceLT, Nat.reduceLeDiff, Nat.reduceEqDiff, Nat.reduceAdd, Nat.reduceMul, Nat.reduceSub, ↓reduceIte, eq_self])⟩
            · rw [get_sts _ _ _ _ n1, old4 b (by omega) n2, gd b (by omega)]; exact oc.2 b hb (by simp)
            · rw [cellAt_sts w4', if_pos ⟨rfl, Nat.le_refl _, by simp⟩]; rfl
            · refine (gr2.of_get (h' := h4.sts (h0.nx + 2) 0 [v']) (by rw [nx_sts]; omega) (fun b hb => ?_)).slice
              have := hpv b hb
              rw [get_sts _ _ _ _ (by omega), old4 b (by omega) (hovp b hb), gd b (by omega)]
            · intro k hk
              simp only [List.mem_cons, List.mem_nil_iff, or_false] at hk
              rcases hk with rfl | rfl | rfl | rfl | rfl | rfl | rfl | rfl <;> simp only [B, F, Nat.reduceLT, Nat.reduceLeDiff, Nat.reduceEqDiff, Nat.reduceAdd, Nat.reduceMul, Nat.reduceSub, ↓reduceIte, eq_self, q1, q4, q6, q7, q8, q11, q26, q27, t1, t4, t6, t7, t8, t11, t26, t27]
          | false =>
            have hcg : compG is mod m x.1 = some { x.1 with first := leftFirst is mod m x.1 x.1.puts.length, puts := leftPuts is mod m x.1 x.1.puts.length } := by
              unfold compG leftPuts
              rw [List.take_length]; rw [he, qe]; simp [he]
            repeat' (first | ((with_reducible show codeW _ _ _ _ (codeI _ _) _ _ _ _); first | (apply st_seq; exact rfl) | (refine st_reg ?_ rfl rfl ?_; exact rfl; (conv => arg 4; whnf); (conv => arg 3; whnf)) | (refine st_cond ?_ rfl ?_; exact rfl; (conv => arg 1; arg 2; whnf)) | (refine st_block ?_ rfl ?_; exact rfl; (conv => arg 9; arg 1; whnf)) | (apply st_skip; exact rfl) | (refine st_exit ?_ rfl ?_; exact rfl; (conv in exitId _ => whnf)) | (apply st_ret; exact rfl)) | ((with_reducible refine retW_intro rfl ?_); (conv => arg 2; whnf)) | ((with_reducible first | refine iB (fun hb => ?_) (fun hb => ?_) | refine gWt (fun hb => ?_) (fun hb => ?_) | refine gWf (fun hb => ?_) (fun hb => ?_)) <;> (try simp only [hb])) | (simp only [B, F, Nat.reduceLT, Nat.reduceLeDiff, Nat.reduceEqDiff, Nat.reduceAdd, Nat.reduceMul, Nat.reduceSub, ↓reduceIte, eq_self, q1, q4, q6, q7, q8, q11, q13, q14, q26, q27, q28, q36, q37, d2, k3, k5, qe, hlz, hlen2, l0, l1, l2, l3, l4, l5, C6, hpo, nb6]))
            obtain ⟨hd, hde⟩ : ∃ hd, hd = hc.newCells 87 [.int .u64 (.ofNat x.1.made), .int .u64 (.ofNat (leftFirst is mod m x.1 x.1.puts.length)), pv, .int .u64 (.ofNat x.1.en.1), .int .u64 (.ofNat x.1.en.2), .bool true] := ⟨_, rfl⟩
            rw [← hde]
            have xd : hd.nx = hc.nx + 1 := by rw [hde]; simp only [nx_new]
            have gd : ∀ b, b < hc.nx → hd.t.get b = hc.t.get b := fun b hb => by rw [hde, get_new _ _ _ (by omega)]
            refine exW_grows (base := h2.nx + 1) (h := hd) (gr.of_get (by omega) (fun b hb => by have := gr.base hb; rw [gd b (by omega)]; exact oc.2 b this.2 (by simp))) (by omega) (by omega) (by omega) rfl (by omega) ?_
            intro v' h4 hg4 x4 old4 blk4
            have hov : ∀ b, b ≤ h2.nx → blkOf ov ≠ some b := fun b hb q => by have := (gr.base q).1; omega
            have w4' : wrAt h4 (h0.nx + 2) = true := by rw [wrAt_of_get (old4 _ (by omega) (hov _ (by omega))), wrAt_of_get (gd _ (by omega))]; exact W6
            have z2 : cellAt h4 (h0.nx + 2) 0 = some ov := by rw [cellAt_of_get (old4 _ (by omega) (hov _ (by omega))), cellAt_of_get (gd _ (by omega))]; exact C6
            have hcv := hg4.cells
            have hov1 := hg4.one
            repeat' (first | ((with_reducible show codeW _ _ _ _ (codeI _ _) _ _ _ _); first | (apply st_seq; exact rfl) | (refine st_reg ?_ rfl rfl ?_; exact rfl; (conv => arg 4; whnf); (conv => arg 3; whnf)) | (refine st_cond ?_ rfl ?_; exact rfl; (conv => arg 1; arg 2; whnf)) | (refine st_block ?_ rfl ?_; exact rfl; (conv => arg 9; arg 1; whnf)) | (apply st_skip; exact rfl) | (refine st_exit ?_ rfl ?_; exact rfl; (conv in exitId _ => whnf)) | (apply st_ret; exact rfl)) | ((with_reducible refine retW_intro rfl ?_); (conv => arg 2; whnf)) | ((with_reducible first | refine iB (fun hb => ?_) (fun hb => ?_) | refine gWt (fun hb => ?_) (fun hb => ?_) | refine gWf (fun hb => ?_) (fun hb => ?_)) <;> (try simp only [hb])) | (simp only [B, F, Nat.reduceLT, Nat.reduceLeDiff, Nat.reduceEqDiff, Nat.reduceAdd, Nat.reduceMul, Nat.reduceSub, ↓reduceIte, eq_self, q6, q28, put_sts, w4', z2, hcv, hov1, w2]))
            have hpv := fun b (hb : blkOf pv = some b) => gr2.base hb
            have hovp : ∀ b, blkOf pv = some b → blkOf ov ≠ some b := fun b hb q => by have h1 := gr2.base hb; have h2 := gr.base q; omega
            have hgq := hg4.of_get (h' := h4.sts (h0.nx + 2) 0 [v']) (by rw [nx_sts]; exact Nat.le_refl _) (fun b hb => get_sts _ _ _ _ (by rw [blk4] at hb; cases hb; omega))
            refine ⟨X.length - (i + 1), by omega, i + 1, _, v', hC.put (h' := h4.sts (h0.nx + 2) 0 [v']) (pv := pv) (bn := hd.nx) hx hcg (by rw [nx_sts]; omega) (fun b hb n1 n2 => ?_) (by rw [wrAt_sts]; exact w4') ?_ (by rw [← he] at hgq; exact hgq) blk4 (by omega)
              ?_ nz2 (fun b hb => ⟨by have := hpv b hb; omega, by have := hpv b hb; omega⟩) ?_ (by simp only [B, F, Nat.reduceLT, Nat.reduceLeDiff, Nat.reduceEqDiff, Nat.reduceAdd, Nat.reduceMul, Nat.reduceSub, ↓reduceIte, eq_self])⟩
            · rw [get_sts _ _ _ _ n1, old4 b (by omega) n2, gd b (by omega)]; exact oc.2 b hb (by simp)
            · rw [cellAt_sts w4', if_pos ⟨rfl, Nat.le_refl _, by simp⟩]; rfl
            · refine (gr2.of_get (h' := h4.sts (h0.nx + 2) 0 [v']) (by rw [nx_sts]; omega) (fun b hb => ?_)).slice
              have := hpv b hb
              rw [get_sts _ _ _ _ (by omega), old4 b (by omega) (hovp b hb), gd b (by omega)]
            · intro k hk
              simp only [List.mem_cons, List.mem_nil_iff, or_false] at hk
              rcases hk with rfl | rfl | rfl | rfl | rfl | rfl | rfl | rfl <;> simp only [B, F, Nat.reduceLT, Nat.reduceLeDiff, Nat.reduceEqDiff, Nat.reduceAdd, Nat.reduceMul, Nat.reduceSub, ↓reduceIte, eq_self, q1, q4, q6, q7, q8, q11, q26, q27, t1, t4, t6, t7, t8, t11, t26, t27]
      | false =>
        rw [he] at k5 l5
        cases hle : leftPuts is mod m x.1 x.1.puts.length with
        | nil =>
          have hlz : decide (0 < (leftPuts is mod m x.1 x.1.puts.length).length) = false := by rw [hle]; rfl
          have hcg : compG is mod m x.1 = none := by
            unfold leftPuts at hle
            rw [List.take_length] at hle
            unfold compG; rw [he, hle]; simp [he]
          repeat' (first | ((with_reducible show codeW _ _ _ _ (codeI _ _) _ _ _ _); first | (apply st_seq; exact rfl) | (refine st_reg ?_ rfl rfl ?_; exact rfl; (conv => arg 4; whnf); (conv => arg 3; whnf)) | (refine st_cond ?_ rfl ?_; exact rfl; (conv => arg 1; arg 2; whnf)) | (refine st_block ?_ rfl ?_; exact rfl; (conv => arg 9; arg 1; whnf)) | (apply st_skip; exact rfl) | (refine st_exit ?_ rfl ?_; exact rfl; (conv in exitId _ => whnf)) | (apply st_ret; exact rfl)) | ((with_reducible refine retW_intro rfl ?_); (conv => arg 2; whnf)) | ((with_reducible first | refine iB (fun hb => ?_) (fun hb => ?_) | refine gWt (fun hb => ?_) (fun hb => ?_) | refine gWf (fun hb => ?_) (fun hb => ?_)) <;> (try simp only [hb])) | (simp only [B, F, Nat.reduceLT, Nat.reduceLeDiff, Nat.reduceEqDiff, Nat.reduceAdd, Nat.reduceMul, Nat.reduceSub, ↓reduceIte, eq_self, q1, q4, q6, q7, q8, q11, q13, q14, q26, q27, q28, q36, q37, d2, k3, k5, hlz, hlen2, l2, w2]))
          refine ⟨X.length - (i + 1), by omega, i + 1, X', ov, hC.skip oc hx hcg ?_ (by simp only [B, F, Nat.reduceLT, Nat.reduceLeDiff, Nat.reduceEqDiff, Nat.reduceAdd, Nat.reduceMul, Nat.reduceSub, ↓reduceIte, eq_self])⟩
          intro k hk
          simp only [List.mem_cons, List.mem_nil_iff, or_false] at hk
          rcases hk with rfl | rfl | rfl | rfl | rfl | rfl | rfl | rfl <;> simp only [B, F, Nat.reduceLT, Nat.reduceLeDiff, Nat.reduceEqDiff, Nat.reduceAdd, Nat.reduceMul, Nat.reduceSub, ↓reduceIte, eq_self, q1, q4, q6, q7, q8, q11, q26, q27, t1, t4, t6, t7, t8, t11, t26, t27]
        | cons ra rl =>
          have hlz : decide (0 < (leftPuts is mod m x.1 x.1.puts.length).length) = true := by rw [hle]; simp
          have hcg : compG is mod m x.1 = some { x.1 with first := leftFirst is mod m x.1 x.1.puts.length, puts := leftPuts is mod m x.1 x.1.puts.length } := by
            unfold compG leftPuts
            rw [List.take_length]; unfold leftPuts at hle; rw [List.take_length] at hle; rw [he, hle]; simp [he]
          repeat' (first | ((with_reducible show codeW _ _ _ _ (codeI _ _) _ _ _ _); first | (apply st_seq; exact rfl) | (refine st_reg ?_ rfl rfl ?_; exact rfl; (conv => arg 4; whnf); (conv => arg 3; whnf)) | (refine st_cond ?_ rfl ?_; exact rfl; (conv => arg 1; arg 2; whnf)) | (refine st_block ?_ rfl ?_; exact rfl; (conv => arg 9; arg 1; whnf)) | (apply st_skip; exact rfl) | (refine st_exit ?_ rfl ?_; exact rfl; (conv in exitId _ => whnf)) | (apply st_ret; exact rfl)) | ((with_reducible refine retW_intro rfl ?_); (conv => arg 2; whnf)) | ((with_reducible first | refine iB (fun hb => ?_) (fun hb => ?_) | refine gWt (fun hb => ?_) (fun hb => ?_) | refine gWf (fun hb => ?_) (fun hb => ?_)) <;> (try simp only [hb])) | (simp only [B, F, Nat.reduceLT, Nat.reduceLeDiff, Nat.reduceEqDiff, Nat.reduceAdd, Nat.reduceMul, Nat.reduceSub, ↓reduceIte, eq_self, q1, q4, q6, q7, q8, q11, q13, q14, q26, q27, q28, q36, q37, d2, k3, k5, hlz, hlen2, l0, l1, l2, l3, l4, l5, C6, hpo, nb6]))
          obtain ⟨hd, hde⟩ : ∃ hd, hd = hc.newCells 87 [.int .u64 (.ofNat x.1.made), .int .u64 (.ofNat (leftFirst is mod m x.1 x.1.puts.length)), pv, .int .u64 (.ofNat x.1.en.1), .int .u64 (.ofNat x.1.en.2), .bool false] := ⟨_, rfl⟩
          rw [← hde]
          have xd : hd.nx = hc.nx + 1 := by rw [hde]; simp only [nx_new]
          have gd : ∀ b, b < hc.nx → hd.t.get b = hc.t.get b := fun b hb => by rw [hde, get_new _ _ _ (by omega)]
          refine exW_grows (base := h2.nx + 1) (h := hd) (gr.of_get (by omega) (fun b hb => by have := gr.base hb; rw [gd b (by omega)]; exact oc.2 b this.2 (by simp))) (by omega) (by omega) (by omega) rfl (by omega) ?_
          intro v' h4 hg4 x4 old4 blk4
          have hov : ∀ b, b ≤ h2.nx → blkOf ov ≠ some b := fun b hb q => by have := (gr.base q).1; omega
          have w4' : wrAt h4 (h0.nx + 2) = true := by rw [wrAt_of_get (old4 _ (by omega) (hov _ (by omega))), wrAt_of_get (gd _ (by omega))]; exact W6
          have z2 : cellAt h4 (h0.nx + 2) 0 = some ov := by rw [cellAt_of_get (old4 _ (by omega) (hov _ (by omega))), cellAt_of_get (gd _ (by omega))]; exact C6
          have hcv := hg4.cells
          have hov1 := hg4.one
          repeat' (first | ((with_reducible show codeW _ _ _ _ (codeI _ _) _ _ _ _); first | (apply st_seq; exact rfl) | (refine st_reg ?_ rfl rfl ?_; exact rfl; (conv => arg 4; whnf); (conv => arg 3; whnf)) | (refine st_cond ?_ rfl ?_; exact rfl; (conv => arg 1; arg 2; whnf)) | (refine st_block ?_ rfl ?_; exact rfl; (conv => arg 9; arg 1; whnf)) | (apply st_skip; exact rfl) | (refine st_exit ?_ rfl ?_; exact rfl; (conv in exitId _ => whnf)) | (apply st_ret; exact rfl)) | ((with_reducible refine retW_intro rfl ?_); (conv => arg 2; whnf)) | ((with_reducible first | refine iB (fun hb => ?_) (fun hb => ?_) | refine gWt (fun hb => ?_) (fun hb => ?_) | refine gWf (fun hb => ?_) (fun hb => ?_)) <;> (try simp only [hb])) | (simp only [B, F, Nat.reduceLT, Nat.reduceLeDiff, Nat.reduceEqDiff, Nat.reduceAdd, Nat.reduceMul, Nat.reduceSub, ↓reduceIte, eq_self, q6, q28, put_sts, w4', z2, hcv, hov1, w2]))
          have hpv := fun b (hb : blkOf pv = some b) => gr2.base hb
          have hovp : ∀ b, blkOf pv = some b → blkOf ov ≠ some b := fun b hb q => by have h1 := gr2.base hb; have h2 := gr.base q; omega
          have hgq := hg4.of_get (h' := h4.sts (h0.nx + 2) 0 [v']) (by rw [nx_sts]; exact Nat.le_refl _) (fun b hb => get_sts _ _ _ _ (by rw [blk4] at hb; cases hb; omega))
          refine ⟨X.length - (i + 1), by omega, i + 1, _, v', hC.put (h' := h4.sts (h0.nx + 2) 0 [v']) (pv := pv) (bn := hd.nx) hx hcg (by rw [nx_sts]; omega) (fun b hb n1 n2 => ?_) (by rw [wrAt_sts]; exact w4') ?_ (by rw [← he] at hgq; exact hgq) blk4 (by omega)
            ?_ nz2 (fun b hb => ⟨by have := hpv b hb; omega, by have := hpv b hb; omega⟩) ?_ (by simp only [B, F, Nat.reduceLT, Nat.reduceLeDiff, Nat.reduceEqDiff, Nat.reduceAdd, Nat.reduceMul, Nat.reduceSub, ↓reduceIte, eq_self])⟩
          · rw [get_sts _ _ _ _ n1, old4 b (by omega) n2, gd b (by omega)]; exact oc.2 b hb (by simp)
          · rw [cellAt_sts w4', if_pos ⟨rfl, Nat.le_refl _, by simp⟩]; rfl
          · refine (gr2.of_get (h' := h4.sts (h0.nx + 2) 0 [v']) (by rw [nx_sts]; omega) (fun b hb => ?_)).slice
            have := hpv b hb
            rw [get_sts _ _ _ _ (by omega), old4 b (by omega) (hovp b hb), gd b (by omega)]
          · intro k hk
            simp only [List.mem_cons, List.mem_nil_iff, or_false] at hk
            rcases hk with rfl | rfl | rfl | rfl | rfl | rfl | rfl | rfl <;> simp only [B, F, Nat.reduceLT, Nat.reduceLeDiff, Nat.reduceEqDiff, Nat.reduceAdd, Nat.reduceMul, Nat.reduceSub, ↓reduceIte, eq_self, q1, q4, q6, q7, q8, q11, q26, q27, t1, t4, t6, t7, t8, t11, t26, t27]
  · have d1 : decide (i < X.length) = false := decide_eq_false hi
    have hie : i = X.length := by omega
    subst hie
    rw [List.take_length] at ex
    have hfin : ∀ h' : H, Only h h' [] → Only h0 (h'.sts (h0.nx + 1) 0 [ov]) [] ∧ GensP p (h'.sts (h0.nx + 1) 0 [ov]) (.agg [ov]) ((gs X).filterMap (compG is mod m)) := fun h' oh => by
      have e1 : Only h0 (h'.sts (h0.nx + 1) 0 [ov]) [] := (oo.trans oh (fun _ h => h) (fun _ h => by cases h)).sts (.inr (by omega))
      have e2 : Only h (h'.sts (h0.nx + 1) 0 [ov]) [h0.nx + 1] := by
        have := oh.1
        exact ⟨by rw [nx_sts]; exact this, fun b hb hs => by rw [List.mem_singleton] at hs; rw [get_sts _ _ _ _ hs]; exact oh.2 b hb (by simp)⟩
      refine ⟨e1, ov, X', rfl, ex, ⟨gr.slice.only e2 (fun b hb hs => ?_), fun x hx => (ps x hx).1.only e2 (fun b hb hs => ?_)⟩, ⟨nz, fun Y x e q => (ps x (by rw [e]; simp)).2.1 q⟩, fun b hb => hp b ?_, fun x hx b hb => hp b ?_⟩
      · rw [List.mem_singleton] at hs; have := (gr.base hb).1; omega
      · rw [List.mem_singleton] at hs; have := ((ps x hx).2.2 b hb).1; omega
      · have := (gr.base hb).1; omega
      · have := ((ps x hx).2.2 b hb).1; omega
    have hov := gr.one
    have hoc := gr.cells
    have nb6 : (h0.nx + 2 = h.nx) = False := by simp; omega
    rcases Bool.eq_false_or_eq_true is with his | his
    · rw [his] at t11
      repeat' (first | ((with_reducible show codeW _ _ _ _ (codeI _ _) _ _ _ _); first | (apply st_seq; exact rfl) | (refine st_reg ?_ rfl rfl ?_; exact rfl; (conv => arg 4; whnf); (conv => arg 3; whnf)) | (refine st_cond ?_ rfl ?_; exact rfl; (conv => arg 1; arg 2; whnf)) | (refine st_block ?_ rfl ?_; exact rfl; (conv => arg 9; arg 1; whnf)) | (apply st_skip; exact rfl) | (refine st_exit ?_ rfl ?_; exact rfl; (conv in exitId _ => whnf)) | (apply st_ret; exact rfl)) | ((with_reducible refine retW_intro rfl ?_); (conv => arg 2; whnf)) | ((with_reducible first | refine iB (fun hb => ?_) (fun hb => ?_) | refine gWt (fun hb => ?_) (fun hb => ?_) | refine gWf (fun hb => ?_) (fun hb => ?_)) <;> (try simp only [hb])) | (simp only [B, F, Nat.reduceLT, Nat.reduceLeDiff, Nat.reduceEqDiff, Nat.reduceAdd, Nat.reduceMul, Nat.reduceSub, ↓reduceIte, eq_self, t1, t4, t6, t7, t8, t11, t26, t27, t28, d1, m0, m1, c6, w4, c4, hov, hoc]))
      refine exW_grows (base := h.nx) (h := h.newCells 35 [.int .u64 (.ofNat mod.1), .int .u64 (.ofNat mod.2)]) .none (by rw [nx_new]; omega) (by omega) (by omega) rfl (by omega) ?_
      intro kv h4 hg4 x4 old4 blk4
      rw [nx_new] at x4
      have o4 : Only h h4 [] := ⟨by omega, fun b hb _ => by rw [old4 b (by rw [nx_new]; omega) (by intro q; cases q), get_new _ _ _ (by omega)]⟩
      have x0 := oo.1
      have hko := hg4.one
      have hkc := hg4.cells
      first | replace w4 := kcell w4 o4 (by omega) (by simp) | replace w4 := kwr w4 o4 (by omega) (by simp)
      first | replace c4 := kcell c4 o4 (by omega) (by simp) | replace c4 := kwr c4 o4 (by omega) (by simp)
      first | replace c6 := kcell c6 o4 (by omega) (by simp) | replace c6 := kwr c6 o4 (by omega) (by simp)
      repeat' (first | ((with_reducible show codeW _ _ _ _ (codeI _ _) _ _ _ _); first | (apply st_seq; exact rfl) | (refine st_reg ?_ rfl rfl ?_; exact rfl; (conv => arg 4; whnf); (conv => arg 3; whnf)) | (refine st_cond ?_ rfl ?_; exact rfl; (conv => arg 1; arg 2; whnf)) | (refine st_block ?_ rfl ?_; exact rfl; (conv => arg 9; arg 1; whnf)) | (apply st_skip; exact rfl) | (refine st_exit ?_ rfl ?_; exact rfl; (conv in exitId _ => whnf)) | (apply st_ret; exact rfl)) | ((with_reducible refine retW_intro rfl ?_); (conv => arg 2; whnf)) | ((with_reducible first | refine iB (fun hb => ?_) (fun hb => ?_) | refine gWt (fun hb => ?_) (fun hb => ?_) | refine gWf (fun hb => ?_) (fun hb => ?_)) <;> (try simp only [hb])) | (simp only [B, F, Nat.reduceLT, Nat.reduceLeDiff, Nat.reduceEqDiff, Nat.reduceAdd, Nat.reduceMul, Nat.reduceSub, ↓reduceIte, eq_self, t4, t6, t7, put_sts, w4, c4, c6, hov, hoc, cellAt_sts w4, hko, hkc]))
      obtain ⟨f1, f2⟩ := hfin h4 o4
      rw [his] at f2 ⊢; rw [if_pos rfl]
      refine ⟨f1, _, _, rfl, f2, ?_⟩
      have q := hg4.of_get (h' := h4.sts (h0.nx + 1) 0 [ov]) (by rw [nx_sts]; exact Nat.le_refl _) (fun b hb => get_sts _ _ _ _ (by rw [blk4] at hb; cases hb; rw [nx_new]; omega))
      exact q.weak (by omega)
    · rw [his] at t11
      repeat' (first | ((with_reducible show codeW _ _ _ _ (codeI _ _) _ _ _ _); first | (apply st_seq; exact rfl) | (refine st_reg ?_ rfl rfl ?_; exact rfl; (conv => arg 4; whnf); (conv => arg 3; whnf)) | (refine st_cond ?_ rfl ?_; exact rfl; (conv => arg 1; arg 2; whnf)) | (refine st_block ?_ rfl ?_; exact rfl; (conv => arg 9; arg 1; whnf)) | (apply st_skip; exact rfl) | (refine st_exit ?_ rfl ?_; exact rfl; (conv in exitId _ => whnf)) | (apply st_ret; exact rfl)) | ((with_reducible refine retW_intro rfl ?_); (conv => arg 2; whnf)) | ((with_reducible first | refine iB (fun hb => ?_) (fun hb => ?_) | refine gWt (fun hb => ?_) (fun hb => ?_) | refine gWf (fun hb => ?_) (fun hb => ?_)) <;> (try simp only [hb])) | (simp only [B, F, Nat.reduceLT, Nat.reduceLeDiff, Nat.reduceEqDiff, Nat.reduceAdd, Nat.reduceMul, Nat.reduceSub, ↓reduceIte, eq_self, t1, t4, t6, t7, t8, t11, t26, t27, t28, d1, m0, m1, c6, put_sts, w4, c4, hov, hoc, cellAt_sts w4]))
      obtain ⟨f1, f2⟩ := hfin h (Only.refl _ _)
      rw [his] at f2 ⊢; rw [if_neg (by simp)]
      exact ⟨f1, _, _, rfl, f2, .none⟩
end
end Go.Proofs.Ytlkngpckibidlaa.W

namespace Go.Proofs.Ytlkngpckibidlaa.W
open Go Go.AX
noncomputable section
def opnA (A : List Ch) : Bool := match A.getLast? with | some c => !c.tomb | none => false
def fitA (A : List Ch) (r : Rv) : Bool := decide (0 < r.1) && (match A.getLast? with | some c => above r c.rev | none => true)
def nextA (A : List Ch) (r : Rv) (made nth : Nat) : Ch :=
  match A.getLast? with
  | some c => if c.tomb then ⟨r, made, nth % M64, false⟩ else ⟨r, c.made, (c.nth + 1) % M64, false⟩
  | none => ⟨r, made, nth % M64, false⟩
def restA (A : List Ch) (r : Rv) (made nth : Nat) : Bool :=
  fitA A r && !decide (made = 0) && !decide (r.1 < made) && !decide (nth = 0) &&
  (match A.getLast? with
   | none => true
   | some c => if c.tomb then decide (c.rev.1 < made) else decide (made = c.made) && decide (nth = (c.nth + 1) % M64))
structure WF (L : List Gn) : Prop where
  inner : ∀ Y g Z, L = Y ++ g :: Z → Z ≠ [] → g.ended = true
  outer : Opq L
theorem putChs_snoc (made : Nat) : ∀ (n : Nat) (l : List Rv) (r : Rv), putChs made n (l ++ [r]) = putChs made n l ++ [⟨r, made, (n + l.length) % M64, false⟩]
  | n, [], r => by simp [putChs]
  | n, x :: l, r => by simp [putChs, putChs_snoc made (n + 1) l r, Nat.add_assoc, Nat.add_comm 1]
theorem all_snoc (Y : List Gn) (g : Gn) : all (Y ++ [g]) = all Y ++ gChs g := by simp [all]
theorem gChs_ended {g : Gn} (h : g.ended = true) : gChs g = putChs g.made g.first g.puts ++ [⟨g.en, 0, 0, true⟩] := by unfold gChs endChs; rw [if_pos h]
theorem gChs_open {g : Gn} (h : g.ended = false) : gChs g = putChs g.made g.first g.puts := by unfold gChs endChs; rw [h]; simp
theorem list_last {α : Type} (X : List α) : X = [] ∨ ∃ Y x, X = Y ++ [x] := by
  rcases List.eq_nil_or_concat X with h | ⟨Y, x, h⟩
  · exact .inl h
  · exact .inr ⟨Y, x, by rw [h, List.concat_eq_append]⟩
theorem wf_last {L : List Gn} (h : WF L) : L = [] ∨ ∃ Y g, L = Y ++ [g] ∧ ((g.ended = true ∧ all L = (all Y ++ putChs g.made g.first g.puts) ++ [⟨g.en, 0, 0, true⟩]) ∨
    (g.ended = false ∧ ∃ ps r, g.puts = ps ++ [r] ∧ all L = (all Y ++ putChs g.made g.first ps) ++ [⟨r, g.made, (g.first + ps.length) % M64, false⟩])) := by
  rcases list_last L with rfl | ⟨Y, g, rfl⟩
  · exact .inl rfl
  refine .inr ⟨Y, g, rfl, ?_⟩
  cases he : g.ended with
  | true => exact .inl ⟨rfl, by rw [all_snoc, gChs_ended he, List.append_assoc]⟩
  | false =>
    rcases list_last g.puts with hp | ⟨ps, r, hp⟩
    · exact absurd hp (h.outer Y g rfl he)
    · exact .inr ⟨rfl, ps, r, hp, by rw [all_snoc, gChs_open he, hp, putChs_snoc, List.append_assoc]⟩
theorem opn_snoc (Y : List Gn) (g : Gn) : opn (Y ++ [g]) = !g.ended := by unfold opn; simp
theorem opnA_snoc (A : List Ch) (c : Ch) : opnA (A ++ [c]) = !c.tomb := by unfold opnA; simp
theorem opn_all {L : List Gn} (h : WF L) : opn L = opnA (all L) := by
  rcases wf_last h with rfl | ⟨Y, g, rfl, ⟨he, ha⟩ | ⟨he, ps, r, hp, ha⟩⟩
  · rfl
  · rw [ha, opn_snoc, opnA_snoc, he]
  · rw [ha, opn_snoc, opnA_snoc, he]
theorem lst_tt (A : List Ch) : lst tt A = A.getLast? := by unfold lst tt; rw [List.filter_eq_self.2 (fun _ _ => rfl)]
theorem fits_all (L : List Gn) (r : Rv) : fitsB L r = fitA (all L) r := by
  unfold fitsB fitA lstB lstC
  rw [lst_tt]
  cases (all L).getLast? <;> simp
theorem all_putL {L : List Gn} (h : WF L) (r : Rv) (made nth : Nat) : all (putL L r made nth) = all L ++ [nextA (all L) r made nth] := by
  rcases wf_last h with rfl | ⟨Y, g, rfl, ⟨he, ha⟩ | ⟨he, ps, r0, hp, ha⟩⟩
  · simp [putL, all, nextA, gChs, putChs, endChs]
  · have hn : nextA (all (Y ++ [g])) r made nth = ⟨r, made, nth % M64, false⟩ := by unfold nextA; rw [ha]; simp
    rw [hn]
    unfold putL
    simp only [List.getLast?_append, List.getLast?_singleton, Option.some_or, he, if_true]
    rw [all_snoc (Y ++ [g])]
    simp [gChs, putChs, endChs]
  · have hn : nextA (all (Y ++ [g])) r made nth = ⟨r, g.made, (g.first + (ps ++ [r0]).length) % M64, false⟩ := by
      unfold nextA; rw [ha]; simp [M64, Nat.add_assoc]
    rw [hn]
    unfold putL
    simp only [List.getLast?_append, List.getLast?_singleton, Option.some_or, he, List.dropLast_concat]
    rw [if_neg (by simp), all_snoc, all_snoc, gChs_open he, gChs_open rfl, List.append_assoc]
    simp only [hp, putChs_snoc (l := ps ++ [r0])]
theorem all_tombL {L : List Gn} (h : WF L) (ho : opn L = true) (r : Rv) : all (tombL L r) = all L ++ [⟨r, 0, 0, true⟩] := by
  rcases wf_last h with rfl | ⟨Y, g, rfl, ⟨he, ha⟩ | ⟨he, ps, r0, hp, ha⟩⟩
  · cases ho
  · rw [opn_snoc, he] at ho; cases ho
  · unfold tombL
    simp only [List.getLast?_append, List.getLast?_singleton, Option.some_or, List.dropLast_concat]
    rw [all_snoc, all_snoc, gChs_open he, gChs_ended rfl, List.append_assoc]
theorem wf_nil : WF [] := ⟨fun Y g Z h => by simp at h, fun Y g h => by simp at h⟩
theorem wf_snoc {Y : List Gn} {g : Gn} (hY : ∀ x, x ∈ Y → x.ended = true) (hg : g.ended = false → g.puts ≠ []) : WF (Y ++ [g]) := by
  refine ⟨fun A x Z h hZ => ?_, fun A x h he => ?_⟩
  · rcases list_last Z with rfl | ⟨Z', z, rfl⟩
    · exact absurd rfl hZ
    · rw [← List.cons_append, ← List.append_assoc] at h
      obtain ⟨rfl, -⟩ := List.append_inj' h rfl
      exact hY x (by simp)
  · obtain ⟨rfl, q⟩ := List.append_inj' h rfl
    simp only [List.cons.injEq, and_true] at q
    subst q; exact hg he
theorem wf_init {Y : List Gn} {g : Gn} (h : WF (Y ++ [g])) : ∀ x, x ∈ Y → x.ended = true := by
  intro x hx
  obtain ⟨A, B, rfl⟩ := List.append_of_mem hx
  exact h.inner A x (B ++ [g]) (by simp) (by simp)
theorem wf_put {L : List Gn} (h : WF L) (r : Rv) (made nth : Nat) : WF (putL L r made nth) := by
  rcases list_last L with rfl | ⟨Y, g, rfl⟩
  · exact wf_snoc (Y := []) (fun x hx => by cases hx) (fun _ => by simp)
  · unfold putL
    simp only [List.getLast?_append, List.getLast?_singleton, Option.some_or, List.dropLast_concat]
    cases he : g.ended with
    | true =>
      rw [if_pos rfl]
      refine wf_snoc (fun x hx => ?_) (fun _ => by simp)
      rcases List.mem_append.1 hx with hx | hx
      · exact wf_init h x hx
      · rw [List.mem_singleton] at hx; subst hx; exact he
    | false =>
      rw [if_neg (by simp)]
      exact wf_snoc (wf_init h) (fun _ => by simp)
theorem wf_tomb {L : List Gn} (h : WF L) (r : Rv) : WF (tombL L r) := by
  rcases list_last L with rfl | ⟨Y, g, rfl⟩
  · exact wf_nil
  · unfold tombL
    simp only [List.getLast?_append, List.getLast?_singleton, Option.some_or, List.dropLast_concat]
    exact wf_snoc (wf_init h) (fun q => by cases q)
theorem sz_put {N : Nat} {L : List Gn} (h : Sz N L) (r : Rv) (made nth : Nat) : Sz (N + 1) (putL L r made nth) := by
  rcases list_last L with rfl | ⟨Y, g, rfl⟩
  · exact ⟨by simp [putL], fun x hx => by simp [putL] at hx; subst hx; simp⟩
  · have h1 := h.1
    have h2 := h.2
    simp only [List.length_append, List.length_cons, List.length_nil] at h1
    unfold putL
    simp only [List.getLast?_append, List.getLast?_singleton, Option.some_or, List.dropLast_concat]
    split
    · refine ⟨by simp; omega, fun x hx => ?_⟩
      rcases List.mem_append.1 hx with hx | hx
      · exact Nat.le_succ_of_le (h2 x hx)
      · rw [List.mem_singleton] at hx; subst hx; simp
    · refine ⟨by simp; omega, fun x hx => ?_⟩
      rcases List.mem_append.1 hx with hx | hx
      · exact Nat.le_succ_of_le (h2 x (List.mem_append_left _ hx))
      · rw [List.mem_singleton] at hx; subst hx
        have := h2 g (by simp)
        simp; omega
theorem sz_tomb {N : Nat} {L : List Gn} (h : Sz N L) (r : Rv) : Sz N (tombL L r) := by
  rcases list_last L with rfl | ⟨Y, g, rfl⟩
  · exact ⟨Nat.zero_le _, fun x hx => by simp [tombL] at hx⟩
  · have h1 := h.1
    have h2 := h.2
    simp only [List.length_append, List.length_cons, List.length_nil] at h1
    unfold tombL
    simp only [List.getLast?_append, List.getLast?_singleton, Option.some_or, List.dropLast_concat]
    refine ⟨by simp; omega, fun x hx => ?_⟩
    rcases List.mem_append.1 hx with hx | hx
    · exact h2 x (List.mem_append_left _ hx)
    · rw [List.mem_singleton] at hx; subst hx; exact h2 g (by simp)
def madeStep (S : List Gn × Nat) (b : Nat) : List Gn × Nat :=
  let m := S.2 + 1 + b / 4 % 3
  (if b % 4 = 0 ∧ opn S.1 = true then tombL S.1 (m, b / 16) else putL S.1 (m, b / 16) m 1, m)
def madeL (l : List Nat) : List Gn × Nat := l.foldl madeStep ([], 0)
theorem madeL_take {l : List Nat} {i b : Nat} (hb : l[i]? = some b) : madeL (l.take (i + 1)) = madeStep (madeL (l.take i)) b := by
  unfold madeL
  rw [List.take_add_one, hb, List.foldl_append]; rfl
structure MI (n : Nat) (S : List Gn × Nat) : Prop where
  wf : WF S.1
  sz : Sz n S.1
  mx : S.2 ≤ 3 * n
  le : ∀ c, c ∈ all S.1 → c.rev.1 ≤ S.2
theorem fit_gt {A : List Ch} {r : Rv} (h0 : 0 < r.1) (h : ∀ c, c ∈ A → c.rev.1 < r.1) : fitA A r = true := by
  unfold fitA
  rw [decide_eq_true h0, Bool.true_and]
  cases q : A.getLast? with
  | none => rfl
  | some c =>
    have := h c (List.mem_of_getLast? q)
    simp [above, this]
theorem nextA_rev (A : List Ch) (r : Rv) (made nth : Nat) : (nextA A r made nth).rev = r ∧ (nextA A r made nth).tomb = false := by
  unfold nextA; split
  · split <;> exact ⟨rfl, rfl⟩
  · exact ⟨rfl, rfl⟩
theorem mi_step {n : Nat} {S : List Gn × Nat} (h : MI n S) (b : Nat) : MI (n + 1) (madeStep S b) ∧ fitsB S.1 (S.2 + 1 + b / 4 % 3, b / 16) = true := by
  obtain ⟨wf, sz, mx, le⟩ := h
  have hf : fitsB S.1 (S.2 + 1 + b / 4 % 3, b / 16) = true := by
    rw [fits_all]; exact fit_gt (by show 0 < S.2 + 1 + b / 4 % 3; omega) (fun c hc => by show c.rev.1 < S.2 + 1 + b / 4 % 3; have := le c hc; omega)
  refine ⟨?_, hf⟩
  unfold madeStep
  simp only
  by_cases q : b % 4 = 0 ∧ opn S.1 = true
  · rw [if_pos q]
    refine ⟨wf_tomb wf _, (sz_tomb sz _).le (Nat.le_succ _), by show S.2 + 1 + b / 4 % 3 ≤ 3 * (n + 1); omega, fun c hc => ?_⟩
    rw [all_tombL wf q.2] at hc
    show c.rev.1 ≤ S.2 + 1 + b / 4 % 3
    rcases List.mem_append.1 hc with hc | hc
    · have := le c hc; omega
    · rw [List.mem_singleton] at hc; subst hc; exact Nat.le_refl _
  · rw [if_neg q]
    refine ⟨wf_put wf _ _ _, sz_put sz _ _ _, by show S.2 + 1 + b / 4 % 3 ≤ 3 * (n + 1); omega, fun c hc => ?_⟩
    rw [all_putL wf] at hc
    show c.rev.1 ≤ S.2 + 1 + b / 4 % 3
    rcases List.mem_append.1 hc with hc | hc
    · have := le c hc; omega
    · rw [List.mem_singleton] at hc; subst hc; rw [(nextA_rev _ _ _ _).1]; exact Nat.le_refl _
theorem mi_nil : MI 0 ([], 0) := ⟨wf_nil, ⟨Nat.le_refl _, fun x hx => by cases hx⟩, Nat.le_refl _, fun c hc => by cases hc⟩
theorem mi_made (l : List Nat) : MI l.length (madeL l) := by
  rcases list_last l with rfl | ⟨Y, b, rfl⟩
  · exact mi_nil
  · rw [List.length_append]
    have := (mi_step (mi_made Y) b).1
    unfold madeL at this ⊢
    rw [List.foldl_append]; exact this
termination_by l.length
end
end Go.Proofs.Ytlkngpckibidlaa.W

namespace Go.Proofs.Ytlkngpckibidlaa.W
open Go Go.AX
noncomputable section
theorem above_trans {a b c : Rv} (h1 : above a b = true) (h2 : above b c = true) : above a c = true := by
  simp only [above, Bool.or_eq_true, Bool.and_eq_true, decide_eq_true_eq] at *
  omega
theorem above_irrefl (a : Rv) : above a a = false := by simp [above]
theorem above_le {a b : Rv} (h : above a b = true) : b.1 ≤ a.1 := by
  simp only [above, Bool.or_eq_true, Bool.and_eq_true, decide_eq_true_eq] at h
  omega
def Rising (A : List Ch) : Prop := A.Pairwise fun a b => above b.rev a.rev = true
def compA (A : List Ch) (m : Nat) : List Ch :=
  (match lst (atP m) A with
   | some c => if c.tomb then [] else [c]
   | none => []) ++ A.filter fun c => decide (m < c.rev.1)
theorem last_rel {α : Type} {R : α → α → Prop} {l : List α} {c : α} (hl : l.getLast? = some c) (hp : l.Pairwise R) : ∀ x, x ∈ l → x = c ∨ R x c := by
  intro x hx
  obtain ⟨Y, rfl⟩ : ∃ Y, l = Y ++ [c] := by
    rcases list_last l with rfl | ⟨Y, d, rfl⟩
    · simp at hl
    · simp at hl; subst hl; exact ⟨Y, rfl⟩
  rcases List.mem_append.1 hx with q | q
  · rw [List.pairwise_append] at hp
    exact .inr (hp.2.2 x q c (by simp))
  · rw [List.mem_singleton] at q; exact .inl q
def isA (A : List Ch) (m : Nat) : Bool := lstB (atP m) A && !(lstC (atP m) A).tomb
def modA (A : List Ch) (m : Nat) : Rv := if isA A m then (lstC (atP m) A).rev else (0, 0)
def kA (A : List Ch) (m : Nat) (r : Rv) : Bool := keepR (isA A m) (modA A m) m r
theorem isA_some {A : List Ch} {m : Nat} (h : isA A m = true) : ∃ c, lst (atP m) A = some c ∧ c.tomb = false ∧ modA A m = c.rev := by
  unfold modA
  rw [if_pos h]
  unfold isA lstB lstC at h
  unfold lstC
  cases q : lst (atP m) A with
  | none => rw [q] at h; cases h
  | some c => rw [q] at h; exact ⟨c, rfl, by simpa using h, rfl⟩
theorem kA_mono {A : List Ch} (m : Nat) (hr : Rising A) : A.Pairwise fun a b => kA A m a.rev = true → m < b.rev.1 := by
  refine List.Pairwise.imp_of_mem (fun {a b} ha hb (hab : above b.rev a.rev = true) hk => ?_) hr
  unfold kA keepR at hk
  simp only [Bool.or_eq_true, Bool.and_eq_true, decide_eq_true_eq] at hk
  rcases hk with hk | ⟨hi, he⟩
  · exact Nat.lt_of_lt_of_le hk (above_le hab)
  · obtain ⟨c, hc, -, hm⟩ := isA_some hi
    rcases Nat.lt_or_ge m b.rev.1 with q | q
    · exact q
    · exfalso
      rw [hm] at he
      have hbf : b ∈ A.filter (atP m) := List.mem_filter.2 ⟨hb, decide_eq_true q⟩
      rcases last_rel hc (List.Pairwise.filter (atP m) hr) b hbf with e | e
      · rw [e, ← he] at hab; rw [above_irrefl] at hab; cases hab
      · have := above_trans e hab
        rw [he, above_irrefl] at this; cases this
theorem kA_tomb {A : List Ch} {m : Nat} (hr : Rising A) {c : Ch} (hc : c ∈ A) (ht : c.tomb = true) : kA A m c.rev = decide (m < c.rev.1) := by
  unfold kA keepR
  cases hi : isA A m with
  | false => simp
  | true =>
    obtain ⟨d, hd, hdt, hm⟩ := isA_some hi
    rw [hm]
    have hdm : d ∈ A.filter (atP m) := List.mem_of_getLast? hd
    have hdm2 := (List.mem_filter.1 hdm).1
    have hne : c.rev ≠ d.rev := by
      intro e
      have hcf : c ∈ A.filter (atP m) := List.mem_filter.2 ⟨hc, by have := (List.mem_filter.1 hdm).2; unfold atP at *; rw [e]; exact this⟩
      rcases last_rel hd (List.Pairwise.filter (atP m) hr) c hcf with q | q
      · subst q; rw [hdt] at ht; cases ht
      · rw [e, above_irrefl] at q; cases q
    simp [hne]
theorem compA_filter {A : List Ch} (m : Nat) (hr : Rising A) : compA A m = A.filter fun c => kA A m c.rev := by
  -- up to the Main, and above it
  have split : ∀ (B : List Ch), Rising B → ∃ P Q, B = P ++ Q ∧ (∀ c, c ∈ P → c.rev.1 ≤ m) ∧ ∀ c, c ∈ Q → m < c.rev.1 := by
    intro B hB
    induction B with
    | nil => exact ⟨[], [], rfl, (fun _ h => by cases h), fun _ h => by cases h⟩
    | cons a B ih =>
      unfold Rising at hB
      rw [List.pairwise_cons] at hB
      rcases Nat.lt_or_ge m a.rev.1 with q | q
      · refine ⟨[], a :: B, rfl, (fun _ h => by cases h), fun c hc => ?_⟩
        rcases List.mem_cons.1 hc with rfl | hc
        · exact q
        · exact Nat.lt_of_lt_of_le q (above_le (hB.1 c hc))
      · obtain ⟨P, Q, rfl, hP, hQ⟩ := ih hB.2
        refine ⟨a :: P, Q, rfl, fun c hc => ?_, hQ⟩
        rcases List.mem_cons.1 hc with rfl | hc
        · exact q
        · exact hP c hc
  obtain ⟨P, Q, hA, hP, hQ⟩ := split A hr
  have hl : lst (atP m) A = P.getLast? := by
    unfold lst atP
    rw [hA, List.filter_append, List.filter_eq_self.2 (fun c hc => decide_eq_true (hP c hc)), List.filter_eq_nil_iff.2 (fun c hc => by have := hQ c hc; simp; omega), List.append_nil]
  have hgt : (A.filter fun c => decide (m < c.rev.1)) = Q := by
    rw [hA, List.filter_append, List.filter_eq_nil_iff.2 (fun c hc => by have := hP c hc; simp; omega), List.filter_eq_self.2 (fun c hc => decide_eq_true (hQ c hc)), List.nil_append]
  have hkQ : (Q.filter fun c => kA A m c.rev) = Q := List.filter_eq_self.2 fun c hc => by unfold kA keepR; rw [decide_eq_true (hQ c hc)]; rfl
  unfold compA
  rw [hgt]
  conv => rhs; arg 2; rw [hA]
  rw [List.filter_append, hkQ]
  congr 1
  rw [hl]
  rcases list_last P with rfl | ⟨Y, c, rfl⟩
  · rfl
  · rw [List.getLast?_append, List.getLast?_singleton, Option.some_or]
    simp only
    have hlc : lst (atP m) A = some c := by rw [hl]; simp
    have hr2 : Rising (Y ++ [c]) := by
      unfold Rising at hr ⊢; rw [hA, List.pairwise_append] at hr; exact hr.1
    have hY : (Y.filter fun c => kA A m c.rev) = [] := List.filter_eq_nil_iff.2 fun y hy hk => by
      unfold Rising at hr2
      rw [List.pairwise_append] at hr2
      have hyc := hr2.2.2 y hy c (by simp)
      have hym := hP y (List.mem_append_left _ hy)
      unfold kA keepR at hk
      simp only [Bool.or_eq_true, Bool.and_eq_true, decide_eq_true_eq] at hk
      rcases hk with hk | ⟨hi, he⟩
      · omega
      · obtain ⟨d, hd, -, hm⟩ := isA_some hi
        rw [hlc] at hd; cases hd
        rw [hm] at he; rw [he, above_irrefl] at hyc; cases hyc
    rw [List.filter_append, hY, List.nil_append]
    have hcm := hP c (by simp)
    cases ht : c.tomb with
    | true =>
      have hck : kA A m c.rev = false := by
        rw [kA_tomb hr (by rw [hA]; simp) ht]; exact decide_eq_false (by omega)
      simp [hck]
    | false =>
      have hi : isA A m = true := by unfold isA lstB lstC; rw [hlc]; simp [ht]
      obtain ⟨d, hd, -, hm⟩ := isA_some hi
      rw [hlc] at hd; cases hd
      have hck : kA A m c.rev = true := by unfold kA keepR; rw [hi, hm]; simp
      simp [hck]
theorem putChs_mod (made : Nat) (n : Nat) (l : List Rv) : putChs made (n % M64) l = putChs made n l := by
  apply List.ext_getElem?
  intro i
  rw [putChs_get, putChs_get]
  cases l[i]? with
  | none => rfl
  | some r => simp [M64]
theorem putChs_filter (made : Nat) (k : Rv → Bool) : ∀ (n : Nat) (l : List Rv), (l.Pairwise fun a b => k a = true → k b = true) → (putChs made n l).filter (fun c => k c.rev) = putChs made (n + l.findIdx k) (l.filter k)
  | n, [], _ => rfl
  | n, r :: l, hp => by
    rw [List.pairwise_cons] at hp
    cases hk : k r with
    | true =>
      have hl : l.filter k = l := List.filter_eq_self.2 fun x hx => hp.1 x hx hk
      have hf : (putChs made (n + 1) l).filter (fun c => k c.rev) = putChs made (n + 1) l := List.filter_eq_self.2 fun c hc => by
        obtain ⟨i, hi⟩ := List.mem_iff_getElem?.1 hc
        rw [putChs_get] at hi
        cases hx : l[i]? with
        | none => rw [hx] at hi; cases hi
        | some x => rw [hx] at hi; cases hi; exact hp.1 x (List.mem_of_getElem? hx) hk
      simp only [putChs, List.filter_cons, hk, if_true, hf, hl, List.findIdx_cons, cond_true, Nat.add_zero]
    | false =>
      simp only [putChs, List.filter_cons, hk, List.findIdx_cons, cond_false]
      rw [if_neg (by simp), if_neg (by simp), putChs_filter made k (n + 1) l hp.2, show n + 1 + l.findIdx k = n + (l.findIdx k + 1) by omega]
theorem putChs_rev (made : Nat) : ∀ (n : Nat) (l : List Rv), (putChs made n l).map (·.rev) = l
  | _, [] => rfl
  | n, r :: l => by simp [putChs, putChs_rev made (n + 1) l]
theorem gChs_comp {g : Gn} (is : Bool) (mod : Rv) (m : Nat) (hm : (gChs g).Pairwise fun a b => keepR is mod m a.rev = true → m < b.rev.1) (ht : g.ended = true → keepR is mod m g.en = decide (m < g.en.1)) :
    (gChs g).filter (fun c => keepR is mod m c.rev) = ((compG is mod m g).toList).flatMap gChs := by
  have hk : ∀ r : Rv, m < r.1 → keepR is mod m r = true := fun r h => by unfold keepR; rw [decide_eq_true h]; rfl
  unfold gChs at hm
  rw [List.pairwise_append] at hm
  have hp : g.puts.Pairwise fun a b => keepR is mod m a = true → keepR is mod m b = true := by
    have h1 : ((putChs g.made g.first g.puts).map (·.rev)).Pairwise fun a b => keepR is mod m a = true → keepR is mod m b = true :=
      List.pairwise_map.2 (hm.1.imp fun h hk1 => hk _ (h hk1))
    rwa [putChs_rev] at h1
  have hputs : (putChs g.made g.first g.puts).filter (fun c => keepR is mod m c.rev) = putChs g.made (leftFirst is mod m g g.puts.length) (g.puts.filter (keepR is mod m)) := by
    rw [putChs_filter _ _ _ _ hp]
    unfold leftFirst leftPuts
    rw [List.take_length]
    by_cases q : g.puts.filter (keepR is mod m) = []
    · rw [q]; rfl
    · rw [if_neg q, putChs_mod]
  unfold compG
  conv => lhs; unfold gChs
  rw [List.filter_append, hputs]
  unfold endChs
  cases he : g.ended with
  | false =>
    simp only [Bool.false_and, Bool.or_false]
    by_cases q : g.puts.filter (keepR is mod m) = []
    · simp [q, putChs]
    · simp [q, gChs, endChs, he]
  | true =>
    have hte := ht he
    by_cases q : g.en.1 ≤ m
    · have hf : decide (m < g.en.1) = false := decide_eq_false (by omega)
      rw [hf] at hte
      have hn : g.puts.filter (keepR is mod m) = [] := by
        rw [List.filter_eq_nil_iff]
        intro r hr hkr
        have : r ∈ (putChs g.made g.first g.puts).map (·.rev) := by rw [putChs_rev]; exact hr
        obtain ⟨c, hc, rfl⟩ := List.mem_map.1 this
        have := hm.2.2 c hc ⟨g.en, 0, 0, true⟩ (by unfold endChs; rw [he]; simp) hkr
        have : m < g.en.1 := this
        omega
      simp [q, hn, putChs, hte]
    · have hf : decide (m < g.en.1) = true := decide_eq_true (by omega)
      rw [hf] at hte
      simp [q, gChs, endChs, he, hte]
theorem all_compL {L : List Gn} (m : Nat) (hr : Rising (all L)) : all (compL L m) = compA (all L) m := by
  rw [compA_filter m hr]
  have hmono := kA_mono m hr
  have htomb := fun c hc ht => kA_tomb (m := m) hr (c := c) hc ht
  have e : ∀ r, kA (all L) m r = keepR (atB L m) (atK L m).rev m r := fun r => by
    unfold kA modA isA atK atB
    split <;> rfl
  simp only [e] at hmono htomb ⊢
  unfold compL
  generalize atB L m = is at *
  generalize (atK L m).rev = mod at *
  unfold all
  rw [List.filter_flatMap]
  have : ∀ (M : List Gn), (∀ g, g ∈ M → g ∈ L) → (M.filterMap (compG is mod m)).flatMap gChs = M.flatMap fun g => (gChs g).filter fun c => keepR is mod m c.rev := by
    intro M hM
    induction M with
    | nil => rfl
    | cons g M ih =>
      have hg := hM g (by simp)
      have h1 := gChs_comp (g := g) is mod m (by
        unfold all at hmono
        rw [List.pairwise_flatMap] at hmono
        exact hmono.1 g hg) (fun he => htomb ⟨g.en, 0, 0, true⟩ (List.mem_flatMap.2 ⟨g, hg, by rw [gChs_ended he]; simp⟩) rfl)
      rw [List.flatMap_cons, h1, ← ih (fun x hx => hM x (List.mem_cons_of_mem _ hx)), List.filterMap_cons]
      cases compG is mod m g <;> simp
  exact this L fun _ h => h
theorem compG_ended {is : Bool} {mod : Rv} {m : Nat} {g g' : Gn} (h : compG is mod m g = some g') : g'.ended = g.ended ∧ (g'.ended = false → g'.puts ≠ []) ∧ g'.puts.length ≤ g.puts.length := by
  unfold compG at h
  split at h
  · cases h
  · split at h
    · rename_i h1 h2
      cases h
      refine ⟨rfl, fun q hn => ?_, List.length_filter_le _ _⟩
      have q : g.ended = false := q
      have hn : g.puts.filter (keepR is mod m) = [] := hn
      rw [q, hn] at h2; simp at h2
    · cases h
theorem wf_ended {L : List Gn} (h : ∀ g, g ∈ L → g.ended = true) : WF L :=
  ⟨fun Y g Z e _ => h g (by rw [e]; simp), fun Y g e q => by rw [h g (by rw [e]; simp)] at q; cases q⟩
theorem wf_comp {L : List Gn} (h : WF L) (m : Nat) : WF (compL L m) := by
  rcases list_last L with rfl | ⟨Y, g, rfl⟩
  · exact wf_nil
  · unfold compL
    generalize atB (Y ++ [g]) m = is
    generalize (atK (Y ++ [g]) m).rev = mod
    have hY : ∀ x, x ∈ Y.filterMap (compG is mod m) → x.ended = true := fun x hx => by
      obtain ⟨y, hy, e⟩ := List.mem_filterMap.1 hx
      rw [(compG_ended e).1]; exact wf_init h y hy
    rw [List.filterMap_append]
    cases hg : compG is mod m g with
    | none => rw [show [g].filterMap (compG is mod m) = [] by simp [hg], List.append_nil]; exact wf_ended hY
    | some g' =>
      rw [show [g].filterMap (compG is mod m) = [g'] by simp [hg]]
      exact wf_snoc hY (compG_ended hg).2.1
theorem sz_comp {N : Nat} {L : List Gn} (h : Sz N L) (m : Nat) : Sz N (compL L m) := by
  unfold compL
  refine ⟨Nat.le_trans (List.length_filterMap_le _ _) h.1, fun x hx => ?_⟩
  obtain ⟨y, hy, e⟩ := List.mem_filterMap.1 hx
  exact Nat.le_trans (compG_ended e).2.2 (h.2 y hy)
theorem rising_comp {A : List Ch} (h : Rising A) (m : Nat) : Rising (compA A m) := by
  rw [compA_filter m h]; exact List.Pairwise.filter _ h
theorem rising_snoc {A : List Ch} (h : Rising A) {c : Ch} (hf : fitA A c.rev = true) : Rising (A ++ [c]) := by
  unfold Rising at *
  rw [List.pairwise_append]
  refine ⟨h, by simp, fun x hx y hy => ?_⟩
  rw [List.mem_singleton] at hy; subst hy
  rcases list_last A with rfl | ⟨Y, d, rfl⟩
  · cases hx
  · unfold fitA at hf
    simp at hf
    rcases last_rel (c := d) (by simp) h x hx with rfl | q
    · exact hf.2
    · exact above_trans hf.2 q
end
end Go.Proofs.Ytlkngpckibidlaa.W

namespace Go.Proofs.Ytlkngpckibidlaa.W
open Go Go.AX
noncomputable section
set_option maxRecDepth 100000
structure RvI (h0 : H) (sa sb : AV) (la lb : List Rv) (n : Nat) (ds : List Nat) (tm : T AV) (h : H) (i : Nat) : Prop where
  ds : ds = []
  nn : n = la.length - i
  ii : i ≤ la.length
  t0 : tm.get 0 = some sa
  t1 : tm.get 1 = some sb
  t5 : tm.get 5 = some (.int .i64 (.ofNat i))
  hh : h = h0
  he : ∀ k, k < i → la[k]? = lb[k]?
theorem rv_dec (a b : Rv) : decide (a = b) = (decide (a.1 = b.1) && decide (a.2 = b.2)) := by
  obtain ⟨a1, a2⟩ := a
  obtain ⟨b1, b2⟩ := b
  simp [Prod.ext_iff]
theorem revsC (h : H) (sa sb : AV) (la lb : List Rv) (ha : SliceAt h sa la.length (rvsC la)) (hb : SliceAt h sb lb.length (rvsC lb)) (hz : la.length ≤ 4000000000000) : PushC P (.enter 14 [sa, sb] h) (Says h (.bool (decide (la = lb)))) := by
  have hla := ha.len (P := P) u29
  have hlb := hb.len (P := P) u29
  have hoa := SliceAt.one ha
  have hob := SliceAt.one hb
  refine pushC_of_codeW (fn := Try.f14) (c := bodyC Try.f14) Try.func14 rfl ?_
  show codeW P 14 26 none _ _ _ _ _
  refine codeW_root ?_
  cases q : decide (la.length = lb.length) with
  | false =>
    have e : decide (la = lb) = false := decide_eq_false (fun e => by rw [e] at q; simp at q)
    rw [e]
    repeat' (first | ((with_reducible show codeW _ _ _ _ (codeI _ _) _ _ _ _); first | (apply st_seq; exact rfl) | (refine st_reg ?_ rfl rfl ?_; exact rfl; (conv => arg 4; whnf); (conv => arg 3; whnf)) | (refine st_dw ?_ rfl rfl ?_ ?_; exact rfl; kernel_rfl; (conv => arg 5; whnf); (conv => arg 3; whnf)) | (refine st_cond ?_ rfl ?_; exact rfl; (conv => arg 1; arg 2; whnf)) | (refine st_block ?_ rfl ?_; exact rfl; (conv => arg 9; arg 1; whnf)) | (apply st_skip; exact rfl) | (refine st_exit ?_ rfl ?_; exact rfl; (conv in exitId _ => whnf)) | (apply st_ret; exact rfl)) | ((with_reducible refine retW_intro rfl ?_); (conv => arg 2; whnf)) | ((with_reducible first | refine iB (fun hb => ?_) (fun hb => ?_) | refine gWt (fun hb => ?_) (fun hb => ?_) | refine gWf (fun hb => ?_) (fun hb => ?_) | refine gXt (fun hb => ?_) (fun hb => ?_) | refine gXf (fun hb => ?_) (fun hb => ?_)) <;> (try simp only [hb])) | ((with_reducible show drawI _ _ _ _ _ _ _ _ _); first | (apply kI_rd; exact rfl) | (apply kI_rg; exact rfl; exact rfl) | (apply kI_cv; exact rfl; kernel_rfl) | (apply kI_al; exact rfl; exact rfl) | (apply kI_ex; exact rfl; kernel_rfl; exact rfl) | (apply kI_eg; exact rfl; kernel_rfl; exact rfl) | (apply kI_nl)) | ((with_reducible show eOk _ _ _ _ _ _); first | (exact eok_nil) | (apply ke_rd; exact rfl) | (apply ke_rg; exact rfl; exact rfl) | (apply ke_cv; exact rfl; kernel_rfl) | (apply ke_al; exact rfl; exact rfl)) | ((with_reducible apply freshIs_new); kernel_rfl) | (simp only [B, xB, F, Nat.reduceLT, Nat.reduceLeDiff, Nat.reduceEqDiff, Nat.reduceAdd, Nat.reduceMul, Nat.reduceSub, ↓reduceIte, eq_self, hla, hlb, q]))
    exact ⟨rfl, Only.refl _ _⟩
  | true =>
    have hlen := of_decide_eq_true q
    repeat' (first | ((with_reducible show codeW _ _ _ _ (codeI _ _) _ _ _ _); first | (apply st_seq; exact rfl) | (refine st_reg ?_ rfl rfl ?_; exact rfl; (conv => arg 4; whnf); (conv => arg 3; whnf)) | (refine st_dw ?_ rfl rfl ?_ ?_; exact rfl; kernel_rfl; (conv => arg 5; whnf); (conv => arg 3; whnf)) | (refine st_cond ?_ rfl ?_; exact rfl; (conv => arg 1; arg 2; whnf)) | (refine st_block ?_ rfl ?_; exact rfl; (conv => arg 9; arg 1; whnf)) | (apply st_skip; exact rfl) | (refine st_exit ?_ rfl ?_; exact rfl; (conv in exitId _ => whnf)) | (apply st_ret; exact rfl)) | ((with_reducible refine retW_intro rfl ?_); (conv => arg 2; whnf)) | ((with_reducible first | refine iB (fun hb => ?_) (fun hb => ?_) | refine gWt (fun hb => ?_) (fun hb => ?_) | refine gWf (fun hb => ?_) (fun hb => ?_) | refine gXt (fun hb => ?_) (fun hb => ?_) | refine gXf (fun hb => ?_) (fun hb => ?_)) <;> (try simp only [hb])) | ((with_reducible show drawI _ _ _ _ _ _ _ _ _); first | (apply kI_rd; exact rfl) | (apply kI_rg; exact rfl; exact rfl) | (apply kI_cv; exact rfl; kernel_rfl) | (apply kI_al; exact rfl; exact rfl) | (apply kI_ex; exact rfl; kernel_rfl; exact rfl) | (apply kI_eg; exact rfl; kernel_rfl; exact rfl) | (apply kI_nl)) | ((with_reducible show eOk _ _ _ _ _ _); first | (exact eok_nil) | (apply ke_rd; exact rfl) | (apply ke_rg; exact rfl; exact rfl) | (apply ke_cv; exact rfl; kernel_rfl) | (apply ke_al; exact rfl; exact rfl)) | ((with_reducible apply freshIs_new); kernel_rfl) | (simp only [B, xB, F, Nat.reduceLT, Nat.reduceLeDiff, Nat.reduceEqDiff, Nat.reduceAdd, Nat.reduceMul, Nat.reduceSub, ↓reduceIte, eq_self, hla, hlb, q]))
    refine st_loop (fun n ds tm h' => ∃ i, RvI h sa sb la lb n ds tm h' i) la.length rfl
      ⟨0, rfl, rfl, Nat.zero_le _, by simp only [B, xB, F, Nat.reduceLT, Nat.reduceLeDiff, Nat.reduceEqDiff, Nat.reduceAdd, Nat.reduceMul, Nat.reduceSub, ↓reduceIte, eq_self], by simp only [B, xB, F, Nat.reduceLT, Nat.reduceLeDiff, Nat.reduceEqDiff, Nat.reduceAdd, Nat.reduceMul, Nat.reduceSub, ↓reduceIte, eq_self], by simp only [B, xB, F, Nat.reduceLT, Nat.reduceLeDiff, Nat.reduceEqDiff, Nat.reduceAdd, Nat.reduceMul, Nat.reduceSub, ↓reduceIte, eq_self], rfl, fun k hk => by omega⟩ (fun n ds tm h' hI => ?_)
    obtain ⟨i, rfl, rfl, ii, t0, t1, t5, rfl, he⟩ := hI
    by_cases hi : i < la.length
    · have d1 : decide (i < la.length) = true := decide_eq_true hi
      have lt1 : (i < la.length) = True := by simp [hi]
      have lt2 : (i < lb.length) = True := by simp; omega
      have w2 : wrapF .i64 (Int.ofNat i + Int.ofNat 1) = Int.ofNat (i + 1) := i64_add (by omega)
      obtain ⟨x, hx⟩ : ∃ x, la[i]? = some x := ⟨_, List.getElem?_eq_getElem hi⟩
      obtain ⟨y, hy⟩ : ∃ y, lb[i]? = some y := ⟨_, List.getElem?_eq_getElem (by omega)⟩
      obtain ⟨ba, oa, ca, rfl, _, _⟩ := ha.place (by omega)
      obtain ⟨bb, ob, cb, rfl, _, _⟩ := hb.place (by omega)
      obtain ⟨a0, a1⟩ := rvC_at ha hx
      obtain ⟨b0, b1⟩ := rvC_at hb hy
      cases qm : (decide (x.1 = y.1) && decide (x.2 = y.2)) with
      | true =>
        have exy : x = y := by
          simp only [Bool.and_eq_true, decide_eq_true_eq] at qm
          exact Prod.ext qm.1 qm.2
        repeat' (first | ((with_reducible show codeW _ _ _ _ (codeI _ _) _ _ _ _); first | (apply st_seq; exact rfl) | (refine st_reg ?_ rfl rfl ?_; exact rfl; (conv => arg 4; whnf); (conv => arg 3; whnf)) | (refine st_dw ?_ rfl rfl ?_ ?_; exact rfl; kernel_rfl; (conv => arg 5; whnf); (conv => arg 3; whnf)) | (refine st_cond ?_ rfl ?_; exact rfl; (conv => arg 1; arg 2; whnf)) | (refine st_block ?_ rfl ?_; exact rfl; (conv => arg 9; arg 1; whnf)) | (apply st_skip; exact rfl) | (refine st_exit ?_ rfl ?_; exact rfl; (conv in exitId _ => whnf)) | (apply st_ret; exact rfl)) | ((with_reducible refine retW_intro rfl ?_); (conv => arg 2; whnf)) | ((with_reducible first | refine iB (fun hb => ?_) (fun hb => ?_) | refine gWt (fun hb => ?_) (fun hb => ?_) | refine gWf (fun hb => ?_) (fun hb => ?_) | refine gXt (fun hb => ?_) (fun hb => ?_) | refine gXf (fun hb => ?_) (fun hb => ?_)) <;> (try simp only [hb])) | ((with_reducible show drawI _ _ _ _ _ _ _ _ _); first | (apply kI_rd; exact rfl) | (apply kI_rg; exact rfl; exact rfl) | (apply kI_cv; exact rfl; kernel_rfl) | (apply kI_al; exact rfl; exact rfl) | (apply kI_ex; exact rfl; kernel_rfl; exact rfl) | (apply kI_eg; exact rfl; kernel_rfl; exact rfl) | (apply kI_nl)) | ((with_reducible show eOk _ _ _ _ _ _); first | (exact eok_nil) | (apply ke_rd; exact rfl) | (apply ke_rg; exact rfl; exact rfl) | (apply ke_cv; exact rfl; kernel_rfl) | (apply ke_al; exact rfl; exact rfl)) | ((with_reducible apply freshIs_new); kernel_rfl) | (simp only [B, xB, F, Nat.reduceLT, Nat.reduceLeDiff, Nat.reduceEqDiff, Nat.reduceAdd, Nat.reduceMul, Nat.reduceSub, ↓reduceIte, eq_self, t0, t1, t5, hla, d1, lt1, lt2, a0, a1, b0, b1, qm, Bool.not_true, Bool.not_false, w2]))
        refine ⟨la.length - (i + 1), by omega, i + 1, rfl, rfl, hi, by simp only [B, xB, F, Nat.reduceLT, Nat.reduceLeDiff, Nat.reduceEqDiff, Nat.reduceAdd, Nat.reduceMul, Nat.reduceSub, ↓reduceIte, eq_self, t0], by simp only [B, xB, F, Nat.reduceLT, Nat.reduceLeDiff, Nat.reduceEqDiff, Nat.reduceAdd, Nat.reduceMul, Nat.reduceSub, ↓reduceIte, eq_self, t1], by simp only [B, xB, F, Nat.reduceLT, Nat.reduceLeDiff, Nat.reduceEqDiff, Nat.reduceAdd, Nat.reduceMul, Nat.reduceSub, ↓reduceIte, eq_self], rfl, fun k hk => ?_⟩
        rcases Nat.lt_or_ge k i with q1 | q1
        · exact he k q1
        · obtain rfl : k = i := by omega
          rw [hx, hy, exy]
      | false =>
        have e : decide (la = lb) = false := decide_eq_false (fun e => by subst e; rw [hx] at hy; cases hy; simp at qm)
        rw [e]
        repeat' (first | ((with_reducible show codeW _ _ _ _ (codeI _ _) _ _ _ _); first | (apply st_seq; exact rfl) | (refine st_reg ?_ rfl rfl ?_; exact rfl; (conv => arg 4; whnf); (conv => arg 3; whnf)) | (refine st_dw ?_ rfl rfl ?_ ?_; exact rfl; kernel_rfl; (conv => arg 5; whnf); (conv => arg 3; whnf)) | (refine st_cond ?_ rfl ?_; exact rfl; (conv => arg 1; arg 2; whnf)) | (refine st_block ?_ rfl ?_; exact rfl; (conv => arg 9; arg 1; whnf)) | (apply st_skip; exact rfl) | (refine st_exit ?_ rfl ?_; exact rfl; (conv in exitId _ => whnf)) | (apply st_ret; exact rfl)) | ((with_reducible refine retW_intro rfl ?_); (conv => arg 2; whnf)) | ((with_reducible first | refine iB (fun hb => ?_) (fun hb => ?_) | refine gWt (fun hb => ?_) (fun hb => ?_) | refine gWf (fun hb => ?_) (fun hb => ?_) | refine gXt (fun hb => ?_) (fun hb => ?_) | refine gXf (fun hb => ?_) (fun hb => ?_)) <;> (try simp only [hb])) | ((with_reducible show drawI _ _ _ _ _ _ _ _ _); first | (apply kI_rd; exact rfl) | (apply kI_rg; exact rfl; exact rfl) | (apply kI_cv; exact rfl; kernel_rfl) | (apply kI_al; exact rfl; exact rfl) | (apply kI_ex; exact rfl; kernel_rfl; exact rfl) | (apply kI_eg; exact rfl; kernel_rfl; exact rfl) | (apply kI_nl)) | ((with_reducible show eOk _ _ _ _ _ _); first | (exact eok_nil) | (apply ke_rd; exact rfl) | (apply ke_rg; exact rfl; exact rfl) | (apply ke_cv; exact rfl; kernel_rfl) | (apply ke_al; exact rfl; exact rfl)) | ((with_reducible apply freshIs_new); kernel_rfl) | (simp only [B, xB, F, Nat.reduceLT, Nat.reduceLeDiff, Nat.reduceEqDiff, Nat.reduceAdd, Nat.reduceMul, Nat.reduceSub, ↓reduceIte, eq_self, t0, t1, t5, hla, d1, lt1, lt2, a0, a1, b0, b1, qm, Bool.not_true, Bool.not_false, w2]))
        exact ⟨rfl, Only.refl _ _⟩
    · have d1 : decide (i < la.length) = false := decide_eq_false hi
      have e : decide (la = lb) = true := decide_eq_true (by
        apply List.ext_getElem?
        intro k
        rcases Nat.lt_or_ge k i with q1 | q1
        · exact he k q1
        · rw [List.getElem?_eq_none (by omega), List.getElem?_eq_none (by omega)])
      rw [e]
      repeat' (first | ((with_reducible show codeW _ _ _ _ (codeI _ _) _ _ _ _); first | (apply st_seq; exact rfl) | (refine st_reg ?_ rfl rfl ?_; exact rfl; (conv => arg 4; whnf); (conv => arg 3; whnf)) | (refine st_dw ?_ rfl rfl ?_ ?_; exact rfl; kernel_rfl; (conv => arg 5; whnf); (conv => arg 3; whnf)) | (refine st_cond ?_ rfl ?_; exact rfl; (conv => arg 1; arg 2; whnf)) | (refine st_block ?_ rfl ?_; exact rfl; (conv => arg 9; arg 1; whnf)) | (apply st_skip; exact rfl) | (refine st_exit ?_ rfl ?_; exact rfl; (conv in exitId _ => whnf)) | (apply st_ret; exact rfl)) | ((with_reducible refine retW_intro rfl ?_); (conv => arg 2; whnf)) | ((with_reducible first | refine iB (fun hb => ?_) (fun hb => ?_) | refine gWt (fun hb => ?_) (fun hb => ?_) | refine gWf (fun hb => ?_) (fun hb => ?_) | refine gXt (fun hb => ?_) (fun hb => ?_) | refine gXf (fun hb => ?_) (fun hb => ?_)) <;> (try simp only [hb])) | ((with_reducible show drawI _ _ _ _ _ _ _ _ _); first | (apply kI_rd; exact rfl) | (apply kI_rg; exact rfl; exact rfl) | (apply kI_cv; exact rfl; kernel_rfl) | (apply kI_al; exact rfl; exact rfl) | (apply kI_ex; exact rfl; kernel_rfl; exact rfl) | (apply kI_eg; exact rfl; kernel_rfl; exact rfl) | (apply kI_nl)) | ((with_reducible show eOk _ _ _ _ _ _); first | (exact eok_nil) | (apply ke_rd; exact rfl) | (apply ke_rg; exact rfl; exact rfl) | (apply ke_cv; exact rfl; kernel_rfl) | (apply ke_al; exact rfl; exact rfl)) | ((with_reducible apply freshIs_new); kernel_rfl) | (simp only [B, xB, F, Nat.reduceLT, Nat.reduceLeDiff, Nat.reduceEqDiff, Nat.reduceAdd, Nat.reduceMul, Nat.reduceSub, ↓reduceIte, eq_self, t0, t1, t5, hla, d1]))
      exact ⟨rfl, Only.refl _ _⟩
def atIs (L : List Gn) (m : Nat) (r : Rv) (made nth : Nat) : Bool := decide ((atK L m).rev = r) && decide ((atK L m).made = made) && decide ((atK L m).nth = nth) && (atB L m == decide (0 < nth))
theorem atIsC (h : H) (v : AV) (L : List Gn) (m : Nat) (r : Rv) (made nth : Nat) (hg : GensAt h v L) (hz : Sz 1000 L) : PushC P (.enter 17 [v, n64 m, rvA r, n64 made, n64 nth] h) (Says h (.bool (atIs L m r made nth))) := by
  have hg0 := hg
  obtain ⟨s, X, rfl, rfl, hh, -⟩ := hg
  have hso := SliceAt.one hh.1
  unfold n64
  have e0 : rvA r = .agg [.int .u64 (.ofNat r.1), .int .u64 (.ofNat r.2)] := rfl
  rw [e0]
  refine pushC_of_codeW (fn := Try.f17) (c := bodyC Try.f17) Try.func17 rfl ?_
  show codeW P 17 42 none _ _ _ _ _
  refine codeW_root ?_
  repeat' (first | ((with_reducible show codeW _ _ _ _ (codeI _ _) _ _ _ _); first | (apply st_seq; exact rfl) | (refine st_reg ?_ rfl rfl ?_; exact rfl; (conv => arg 4; whnf); (conv => arg 3; whnf)) | (refine st_cond ?_ rfl ?_; exact rfl; (conv => arg 1; arg 2; whnf)) | (refine st_block ?_ rfl ?_; exact rfl; (conv => arg 9; arg 1; whnf)) | (apply st_skip; exact rfl) | (refine st_exit ?_ rfl ?_; exact rfl; (conv in exitId _ => whnf)) | (apply st_ret; exact rfl)) | ((with_reducible refine retW_intro rfl ?_); (conv => arg 2; whnf)) | ((with_reducible first | refine iB (fun hb => ?_) (fun hb => ?_) | refine gWt (fun hb => ?_) (fun hb => ?_) | refine gWf (fun hb => ?_) (fun hb => ?_)) <;> (try simp only [hb])) | (simp only [B, F, Nat.reduceLT, Nat.reduceLeDiff, Nat.reduceEqDiff, Nat.reduceAdd, Nat.reduceMul, Nat.reduceSub, ↓reduceIte, eq_self, hso]))
  obtain ⟨h1, hH⟩ : ∃ h1, h1 = ((h.newCells 26 [s]).newCells 35 [.int .u64 (.ofNat r.1), .int .u64 (.ofNat r.2)]) := ⟨_, rfl⟩
  have x1 : h1.nx = h.nx + 2 := by rw [hH]; rfl
  have o1 : Only h h1 [] := by rw [hH]; exact ((Only.refl _ _).new _ _).new _ _
  have r0 : cellAt h1 (h.nx + 1) 0 = some (.int .u64 (.ofNat r.1)) := by rw [hH]; simp only [B, F, Nat.reduceLT, Nat.reduceLeDiff, Nat.reduceEqDiff, Nat.reduceAdd, Nat.reduceMul, Nat.reduceSub, ↓reduceIte, eq_self]
  have r1 : cellAt h1 (h.nx + 1) 1 = some (.int .u64 (.ofNat r.2)) := by rw [hH]; simp only [B, F, Nat.reduceLT, Nat.reduceLeDiff, Nat.reduceEqDiff, Nat.reduceAdd, Nat.reduceMul, Nat.reduceSub, ↓reduceIte, eq_self]
  rw [← hH]
  refine ((atC h1 _ _ m (hg0.keep o1) hz).call P).mono P ?_
  rintro v h2 ⟨rfl, o2⟩
  have x2 := o2.1
  first | replace r0 := kcell r0 o2 (by omega) (by simp) | replace r0 := kwr r0 o2 (by omega) (by simp)
  first | replace r1 := kcell r1 o2 (by omega) (by simp) | replace r1 := kwr r1 o2 (by omega) (by simp)
  have oo : Only h h2 [] := o1.trans o2 (fun _ h => h) (fun _ h => by cases h)
  unfold atIs
  obtain ⟨k, hk⟩ : ∃ k, k = atK (X.map (·.1)) m := ⟨_, rfl⟩
  obtain ⟨is, hi⟩ : ∃ is, is = atB (X.map (·.1)) m := ⟨_, rfl⟩
  rw [← hk, ← hi]
  have e1 : rvA k.rev = .agg [.int .u64 (.ofNat k.rev.1), .int .u64 (.ofNat k.rev.2)] := rfl
  rw [e1]
  unfold n64
  have n2 : (h.nx + 1 = h2.nx) = False := by simp; omega
  repeat' (first | ((with_reducible show codeW _ _ _ _ (codeI _ _) _ _ _ _); first | (apply st_seq; exact rfl) | (refine st_reg ?_ rfl rfl ?_; exact rfl; (conv => arg 4; whnf); (conv => arg 3; whnf)) | (refine st_cond ?_ rfl ?_; exact rfl; (conv => arg 1; arg 2; whnf)) | (refine st_block ?_ rfl ?_; exact rfl; (conv => arg 9; arg 1; whnf)) | (apply st_skip; exact rfl) | (refine st_exit ?_ rfl ?_; exact rfl; (conv in exitId _ => whnf)) | (apply st_ret; exact rfl)) | ((with_reducible refine retW_intro rfl ?_); (conv => arg 2; whnf)) | ((with_reducible first | refine iB (fun hb => ?_) (fun hb => ?_) | refine gWt (fun hb => ?_) (fun hb => ?_) | refine gWf (fun hb => ?_) (fun hb => ?_)) <;> (try simp only [hb])) | (simp only [B, F, Nat.reduceLT, Nat.reduceLeDiff, Nat.reduceEqDiff, Nat.reduceAdd, Nat.reduceMul, Nat.reduceSub, ↓reduceIte, eq_self, r0, r1, n2]))
  all_goals refine ⟨?_, (oo.new _ _).sts (.inr (by omega))⟩
  all_goals (clear hk hi; rw [rv_dec]; simp only [*, Bool.true_and, Bool.false_and, Bool.and_false])
end
end Go.Proofs.Ytlkngpckibidlaa.W


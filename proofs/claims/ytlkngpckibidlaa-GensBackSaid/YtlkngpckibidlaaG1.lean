/-
  gens: put.
  gens: Put, Tomb, Restore, Empty.
  gens: Restore, Empty, rev.
-/
import Derived.Test.YtlkngpckibidlaaAxI
import Derived.Test.YtlkngpckibidlaaG0
set_option linter.unusedSimpArgs false
set_option linter.unusedVariables false
namespace Go.Proofs.Ytlkngpckibidlaa.W
open Go Go.AX
noncomputable section
set_option maxRecDepth 100000
def putL (L : List Gn) (r : Rv) (made nth : Nat) : List Gn :=
  match L.getLast? with
  | some g => if g.ended then L ++ [⟨made, nth, [r], (0, 0), false⟩] else L.dropLast ++ [{ g with puts := g.puts ++ [r] }]
  | none => [⟨made, nth, [r], (0, 0), false⟩]
def Blk (p : Nat → Prop) (s : AV) (X : List (Gn × AV)) : Prop := (∀ b, blkOf s = some b → p b) ∧ ∀ x, x ∈ X → ∀ b, blkOf x.2 = some b → p b
def GensP (p : Nat → Prop) (h : H) (v : AV) (L : List Gn) : Prop := ∃ s X, v = .agg [s] ∧ X.map (·.1) = L ∧ Has h s X ∧ Nz s X ∧ Blk p s X
theorem GensAt.p {h : H} {v : AV} {L : List Gn} (hg : GensAt h v L) : GensP (fun b => b < h.nx) h v L := by
  obtain ⟨s, X, rfl, rfl, hh, hn⟩ := hg
  exact ⟨s, X, rfl, rfl, hh, hn, fun b q => SliceAt.blk hh.1 b q, fun x hx b q => SliceAt.blk (hh.2 x hx) b q⟩
theorem GensP.at {p : Nat → Prop} {h : H} {v : AV} {L : List Gn} (hg : GensP p h v L) : GensAt h v L := by
  obtain ⟨s, X, rfl, rfl, hh, hn, _⟩ := hg; exact ⟨s, X, rfl, rfl, hh, hn⟩
theorem GensP.mono {p q : Nat → Prop} {h : H} {v : AV} {L : List Gn} (hg : GensP p h v L) (hpq : ∀ b, b < h.nx → p b → q b) : GensP q h v L := by
  obtain ⟨s, X, rfl, rfl, hh, hn, hb⟩ := hg
  exact ⟨s, X, rfl, rfl, hh, hn, fun b q => hpq b (SliceAt.blk hh.1 b q) (hb.1 b q), fun x hx b q => hpq b (SliceAt.blk (hh.2 x hx) b q) (hb.2 x hx b q)⟩
theorem GensP.keep {p : Nat → Prop} {h h' : H} {v : AV} {L : List Gn} (hg : GensP p h v L) {S : List Nat} (ho : Only h h' S) (hS : ∀ c, c ∈ S → ¬ p c) : GensP p h' v L := by
  obtain ⟨s, X, rfl, rfl, hh, hn, hb⟩ := hg
  exact ⟨s, X, rfl, rfl, hh.only ho (fun b q hs => hS b hs (hb.1 b q)) (fun x hx b q hs => hS b hs (hb.2 x hx b q)), hn, hb⟩
theorem GensP.keep0 {p : Nat → Prop} {h h' : H} {v : AV} {L : List Gn} (hg : GensP p h v L) (ho : Only h h' []) : GensP p h' v L := hg.keep ho (fun _ q => by cases q)
def PostGens (p : Nat → Prop) (h : H) (L : List Gn) (v : AV) (h' : H) : Prop := Only h h' [] ∧ GensP p h' v L
theorem gs_last (X : List (Gn × AV)) : X = [] ∨ ∃ Y x, X = Y ++ [x] := by
  rcases List.eq_nil_or_concat X with h | ⟨Y, x, h⟩
  · exact .inl h
  · exact .inr ⟨Y, x, by rw [h, List.concat_eq_append]⟩
theorem putC (p : Nat → Prop) (h : H) (v : AV) (L : List Gn) (r : Rv) (made nth : Nat) (hp : ∀ b, h.nx ≤ b → p b) (hg : GensP p h v L) (hz : Sz 900 L) : PushC P (.enter 47 [v, rvA r, n64 made, n64 nth] h) (PostGens p h (putL L r made nth)) := by
  obtain ⟨s, X, rfl, rfl, hh, hn, hbk⟩ := hg
  have hob : ∀ x, x ∈ X → ∀ b, blkOf x.2 = some b → p b := hbk.2
  have hso := SliceAt.one hh.1
  have hXz : X.length ≤ 900 := by have := hz.1; simpa using this
  have e0 : rvA r = .agg [.int .u64 (.ofNat r.1), .int .u64 (.ofNat r.2)] := rfl
  rw [e0]
  unfold n64
  refine pushC_of_codeW (fn := Try.f47) (c := bodyC Try.f47) Try.func47 rfl ?_
  show codeW P 47 42 none _ _ _ _ _
  refine codeW_root ?_
  repeat' (first
    | ((with_reducible show codeW _ _ _ _ (codeI _ _) _ _ _ _); first | (apply st_seq; exact rfl) | (refine st_reg ?_ rfl rfl ?_; exact rfl; (conv => arg 4; whnf); (conv => arg 3; whnf)) | (refine st_dw ?_ rfl rfl ?_ ?_; exact rfl; kernel_rfl; (conv => arg 5; whnf); (conv => arg 3; whnf)) | (refine st_cond ?_ rfl ?_; exact rfl; (conv => arg 1; arg 2; whnf)) | (refine st_block ?_ rfl ?_; exact rfl; (conv => arg 9; arg 1; whnf)) | (apply st_skip; exact rfl) | (refine st_exit ?_ rfl ?_; exact rfl; (conv in exitId _ => whnf)) | (apply st_ret; exact rfl))
    | ((with_reducible refine retW_intro rfl ?_); (conv => arg 2; whnf))
    | ((with_reducible refine ifB_split (fun hb => ?_) (fun hb => ?_)) <;> (try rw [Bool.not_true] at hb) <;> (try rw [Bool.not_false] at hb) <;> (try simp only [hb]))
    | ((with_reducible refine gW_split (fun hb => ?_) (fun hb => ?_)) <;> (try rw [Bool.not_true] at hb) <;> (try rw [Bool.not_false] at hb) <;> (try simp only [hb]))
    | ((with_reducible refine gX_split (fun hb => ?_) (fun hb => ?_)) <;> (try rw [Bool.not_true] at hb) <;> (try rw [Bool.not_false] at hb) <;> (try simp only [hb]))
    | ((with_reducible show drawI _ _ _ _ _ _ _ _ _); first | (apply kI_rd; exact rfl) | (apply kI_rg; exact rfl; exact rfl) | (apply kI_cv; exact rfl; kernel_rfl) | (apply kI_al; exact rfl; exact rfl) | (apply kI_ex; exact rfl; kernel_rfl; exact rfl) | (apply kI_eg; exact rfl; kernel_rfl; exact rfl) | (apply kI_nl))
    | ((with_reducible show eOk _ _ _ _ _ _); first | (exact eok_nil) | (apply ke_rd; exact rfl) | (apply ke_rg; exact rfl; exact rfl) | (apply ke_cv; exact rfl; kernel_rfl) | (apply ke_al; exact rfl; exact rfl))
    | ((with_reducible apply freshIs_new); kernel_rfl)
    | (simp only [B, xB, F, Nat.reduceLT, Nat.reduceLeDiff, Nat.reduceEqDiff, Nat.reduceAdd, Nat.reduceMul, Nat.reduceSub, ↓reduceIte, eq_self, hso]))
  obtain ⟨h1, hH⟩ : ∃ h1, h1 = (((h.newCells 26 [s]).newCells 35 [.int .u64 (.ofNat r.1), .int .u64 (.ofNat r.2)]).newCells 26 [.nilslice]) := ⟨_, rfl⟩
  have x1 : h1.nx = h.nx + 3 := by rw [hH]; rfl
  have o1 : Only h h1 [] := by rw [hH]; exact (((Only.refl _ _).new _ _).new _ _).new _ _
  have c0 : cellAt h1 h.nx 0 = some s := by rw [hH]; simp only [B, xB, F, Nat.reduceLT, Nat.reduceLeDiff, Nat.reduceEqDiff, Nat.reduceAdd, Nat.reduceMul, Nat.reduceSub, ↓reduceIte, eq_self]
  have r0 : cellAt h1 (h.nx + 1) 0 = some (.int .u64 (.ofNat r.1)) := by rw [hH]; simp only [B, xB, F, Nat.reduceLT, Nat.reduceLeDiff, Nat.reduceEqDiff, Nat.reduceAdd, Nat.reduceMul, Nat.reduceSub, ↓reduceIte, eq_self]
  have r1 : cellAt h1 (h.nx + 1) 1 = some (.int .u64 (.ofNat r.2)) := by rw [hH]; simp only [B, xB, F, Nat.reduceLT, Nat.reduceLeDiff, Nat.reduceEqDiff, Nat.reduceAdd, Nat.reduceMul, Nat.reduceSub, ↓reduceIte, eq_self]
  have z0 : cellAt h1 (h.nx + 2) 0 = some .nilslice := by rw [hH]; simp only [B, xB, F, Nat.reduceLT, Nat.reduceLeDiff, Nat.reduceEqDiff, Nat.reduceAdd, Nat.reduceMul, Nat.reduceSub, ↓reduceIte, eq_self]
  have w0 : wrAt h1 (h.nx + 2) = true := by rw [hH]; simp only [B, xB, F, Nat.reduceLT, Nat.reduceLeDiff, Nat.reduceEqDiff, Nat.reduceAdd, Nat.reduceMul, Nat.reduceSub, ↓reduceIte, eq_self]
  rw [← hH]
  refine ((copiedC h1 s X (hh.keep o1) hn (hz.le (by omega))).call P).mono P ?_
  rintro v h2 ⟨b, X', rfl, bb, wb, room, has, o2, hnil, hlast⟩
  have c0 : cellAt h2 h.nx 0 = some s := by rw [o2.cell (by omega) (by simp)]; exact c0
  have r0 : cellAt h2 (h.nx + 1) 0 = some (.int .u64 (.ofNat r.1)) := by rw [o2.cell (by omega) (by simp)]; exact r0
  have r1 : cellAt h2 (h.nx + 1) 1 = some (.int .u64 (.ofNat r.2)) := by rw [o2.cell (by omega) (by simp)]; exact r1
  have z0 : cellAt h2 (h.nx + 2) 0 = some .nilslice := by rw [o2.cell (by omega) (by simp)]; exact z0
  have w0 : wrAt h2 (h.nx + 2) = true := by rw [o2.wr (by omega) (by simp)]; exact w0
  have x2 := o2.1
  have n0 : (h.nx = h2.nx) = False := by simp; omega
  have n1 : (h.nx + 1 = h2.nx) = False := by simp; omega
  have n2 : (h.nx + 2 = h2.nx) = False := by simp; omega
  repeat' (first
    | ((with_reducible show codeW _ _ _ _ (codeI _ _) _ _ _ _); first | (apply st_seq; exact rfl) | (refine st_reg ?_ rfl rfl ?_; exact rfl; (conv => arg 4; whnf); (conv => arg 3; whnf)) | (refine st_dw ?_ rfl rfl ?_ ?_; exact rfl; kernel_rfl; (conv => arg 5; whnf); (conv => arg 3; whnf)) | (refine st_cond ?_ rfl ?_; exact rfl; (conv => arg 1; arg 2; whnf)) | (refine st_block ?_ rfl ?_; exact rfl; (conv => arg 9; arg 1; whnf)) | (apply st_skip; exact rfl) | (refine st_exit ?_ rfl ?_; exact rfl; (conv in exitId _ => whnf)) | (apply st_ret; exact rfl))
    | ((with_reducible refine retW_intro rfl ?_); (conv => arg 2; whnf))
    | ((with_reducible refine ifB_split (fun hb => ?_) (fun hb => ?_)) <;> (try rw [Bool.not_true] at hb) <;> (try rw [Bool.not_false] at hb) <;> (try simp only [hb]))
    | ((with_reducible refine gW_split (fun hb => ?_) (fun hb => ?_)) <;> (try rw [Bool.not_true] at hb) <;> (try rw [Bool.not_false] at hb) <;> (try simp only [hb]))
    | ((with_reducible refine gX_split (fun hb => ?_) (fun hb => ?_)) <;> (try rw [Bool.not_true] at hb) <;> (try rw [Bool.not_false] at hb) <;> (try simp only [hb]))
    | ((with_reducible show drawI _ _ _ _ _ _ _ _ _); first | (apply kI_rd; exact rfl) | (apply kI_rg; exact rfl; exact rfl) | (apply kI_cv; exact rfl; kernel_rfl) | (apply kI_al; exact rfl; exact rfl) | (apply kI_ex; exact rfl; kernel_rfl; exact rfl) | (apply kI_eg; exact rfl; kernel_rfl; exact rfl) | (apply kI_nl))
    | ((with_reducible show eOk _ _ _ _ _ _); first | (exact eok_nil) | (apply ke_rd; exact rfl) | (apply ke_rg; exact rfl; exact rfl) | (apply ke_cv; exact rfl; kernel_rfl) | (apply ke_al; exact rfl; exact rfl))
    | ((with_reducible apply freshIs_new); kernel_rfl)
    | (simp only [B, xB, F, Nat.reduceLT, Nat.reduceLeDiff, Nat.reduceEqDiff, Nat.reduceAdd, Nat.reduceMul, Nat.reduceSub, ↓reduceIte, eq_self, c0, n0]))
  have oh : Only h h2 [] := o1.trans o2 (fun _ h => h) (fun _ h => by cases h)
  have o3 : Only h2 ((h2.newCells 26 [.nilslice]).sts h2.nx 0 [.slice b 0 X.length (.exact (X.length + 1))]) [] := ((Only.refl _ _).new _ _).sts (.inr (Nat.le_refl _))
  have x3 : ((h2.newCells 26 [.nilslice]).sts h2.nx 0 [.slice b 0 X.length (.exact (X.length + 1))]).nx = h2.nx + 1 := by rw [nx_sts, nx_new]
  have s3 : cellAt ((h2.newCells 26 [.nilslice]).sts h2.nx 0 [.slice b 0 X.length (.exact (X.length + 1))]) h2.nx 0 = some (.slice b 0 X.length (.exact (X.length + 1))) := by simp only [B, xB, F, Nat.reduceLT, Nat.reduceLeDiff, Nat.reduceEqDiff, Nat.reduceAdd, Nat.reduceMul, Nat.reduceSub, ↓reduceIte, eq_self]
  have ws3 : wrAt ((h2.newCells 26 [.nilslice]).sts h2.nx 0 [.slice b 0 X.length (.exact (X.length + 1))]) h2.nx = true := by simp only [B, xB, F, Nat.reduceLT, Nat.reduceLeDiff, Nat.reduceEqDiff, Nat.reduceAdd, Nat.reduceMul, Nat.reduceSub, ↓reduceIte, eq_self]
  generalize ((h2.newCells 26 [.nilslice]).sts h2.nx 0 [.slice b 0 X.length (.exact (X.length + 1))]) = h3 at *
  refine ((openC h3 _ (X.map (·.1)) ⟨s, X, rfl, rfl, hh.keep (oh.trans o3 (fun _ h => h) (fun _ h => by cases h)), hn⟩ (hz.le (by omega))).call P).mono P ?_
  rintro v h4 ⟨rfl, o4⟩
  have g4 : ∀ c, c < h2.nx → h4.t.get c = h2.t.get c := fun c hc => by rw [o4.2 c (by omega) (by simp), o3.2 c hc (by simp)]
  have x4 := o4.1
  have s4 : cellAt h4 h2.nx 0 = some (.slice b 0 X.length (.exact (X.length + 1))) := by rw [o4.cell (by omega) (by simp)]; exact s3
  have ws4 : wrAt h4 h2.nx = true := by rw [o4.wr (by omega) (by simp)]; exact ws3
  have r0 : cellAt h4 (h.nx + 1) 0 = some (.int .u64 (.ofNat r.1)) := by rw [cellAt_of_get (g4 _ (by omega))]; exact r0
  have r1 : cellAt h4 (h.nx + 1) 1 = some (.int .u64 (.ofNat r.2)) := by rw [cellAt_of_get (g4 _ (by omega))]; exact r1
  have z0 : cellAt h4 (h.nx + 2) 0 = some .nilslice := by rw [cellAt_of_get (g4 _ (by omega))]; exact z0
  have w0 : wrAt h4 (h.nx + 2) = true := by rw [wrAt_of_get (g4 _ (by omega))]; exact w0
  have wb4 : wrAt h4 b = true := by rw [wrAt_of_get (g4 _ (by omega))]; exact wb
  have oh4 : Only h h4 [] := (oh.trans o3 (fun _ h => h) (fun _ h => by cases h)).trans o4 (fun _ h => h) (fun _ h => by cases h)
  have hb4 : ∀ j, cellAt h4 b j = cellAt h2 b j := cellAt_of_get (g4 _ (by omega))
  have has4 : Has h4 (.slice b 0 X.length (.exact (X.length + 1))) X' := has.keep (o3.trans o4 (fun _ h => h) (fun _ h => by cases h))
  have nb2 : (b = h2.nx) = False := by simp; omega
  cases hop : opn (X.map (·.1)) with
  | true =>
    rcases gs_last X with hX0 | ⟨Y, x, hX0⟩
    · rw [hX0] at hop; cases hop
    obtain ⟨bp, hX', bp1, bp2, bp3, wbp, roomp⟩ := hlast Y x hX0
    have hXl : X.length = Y.length + 1 := by rw [hX0]; simp
    have e1 : wrapF .i64 (Int.ofNat X.length - Int.ofNat 1) = Int.ofNat (X.length - 1) := i64_sub (by omega) (by omega)
    have lt1 : (X.length - 1 < X.length) = True := by simp; omega
    have hx' : X'[X.length - 1]? = some (x.1, .slice bp 0 x.1.puts.length (.exact (x.1.puts.length + 1))) := by rw [hX', hXl]; simp
    have hXl' : X'.length = X.length := by rw [hX', hXl]; simp
    have hs4 := has4.1
    rw [hXl'] at hs4
    have a2 := (gC_at hs4 hx').2.2.1
    simp only [Nat.zero_add] at a2
    have hbn : (b = h4.nx) = False := by simp; omega
    have hbn1 : (h.nx + 1 = h4.nx) = False := by simp; omega
    have hbp4 : bp < h4.nx := by omega
    repeat' (first
      | ((with_reducible show codeW _ _ _ _ (codeI _ _) _ _ _ _); first | (apply st_seq; exact rfl) | (refine st_reg ?_ rfl rfl ?_; exact rfl; (conv => arg 4; whnf); (conv => arg 3; whnf)) | (refine st_dw ?_ rfl rfl ?_ ?_; exact rfl; kernel_rfl; (conv => arg 5; whnf); (conv => arg 3; whnf)) | (refine st_cond ?_ rfl ?_; exact rfl; (conv => arg 1; arg 2; whnf)) | (refine st_block ?_ rfl ?_; exact rfl; (conv => arg 9; arg 1; whnf)) | (apply st_skip; exact rfl) | (refine st_exit ?_ rfl ?_; exact rfl; (conv in exitId _ => whnf)) | (apply st_ret; exact rfl))
      | ((with_reducible refine retW_intro rfl ?_); (conv => arg 2; whnf))
      | ((with_reducible refine ifB_split (fun hb => ?_) (fun hb => ?_)) <;> (try rw [Bool.not_true] at hb) <;> (try rw [Bool.not_false] at hb) <;> (try simp only [hb]))
      | ((with_reducible refine gW_split (fun hb => ?_) (fun hb => ?_)) <;> (try rw [Bool.not_true] at hb) <;> (try rw [Bool.not_false] at hb) <;> (try simp only [hb]))
      | ((with_reducible refine gX_split (fun hb => ?_) (fun hb => ?_)) <;> (try rw [Bool.not_true] at hb) <;> (try rw [Bool.not_false] at hb) <;> (try simp only [hb]))
      | ((with_reducible show drawI _ _ _ _ _ _ _ _ _); first | (apply kI_rd; exact rfl) | (apply kI_rg; exact rfl; exact rfl) | (apply kI_cv; exact rfl; kernel_rfl) | (apply kI_al; exact rfl; exact rfl) | (apply kI_ex; exact rfl; kernel_rfl; exact rfl) | (apply kI_eg; exact rfl; kernel_rfl; exact rfl) | (apply kI_nl))
      | ((with_reducible show eOk _ _ _ _ _ _); first | (exact eok_nil) | (apply ke_rd; exact rfl) | (apply ke_rg; exact rfl; exact rfl) | (apply ke_cv; exact rfl; kernel_rfl) | (apply ke_al; exact rfl; exact rfl))
      | ((with_reducible apply freshIs_new); kernel_rfl)
      | (simp only [B, xB, F, Nat.reduceLT, Nat.reduceLeDiff, Nat.reduceEqDiff, Nat.reduceAdd, Nat.reduceMul, Nat.reduceSub, ↓reduceIte, eq_self, s4, e1, lt1, a2, r0, r1, hbn, hbn1]))
    refine exW_place (n := 1) (Nat.le_refl _) rfl ?_ (fun i hi => ?_) rfl ?_
    · rw [wrAt_new, if_neg (by omega), wrAt_of_get (g4 _ (by omega))]; exact wbp
    · rw [cellAt_new, if_neg (by omega), cellAt_of_get (g4 _ (by omega))]
      exact roomp _ (by simp only [List.length_cons, List.length_nil] at hi; omega)
    intro h5 x5 g5 w5 cc5
    rw [nx_new] at x5
    have g54 : ∀ c, c < h4.nx → c ≠ bp → h5.t.get c = h4.t.get c := fun c hc hne => by rw [g5 c hne, get_new _ _ _ (by omega)]
    have wb5 : wrAt h5 b = true := by rw [wrAt_of_get (g54 _ (by omega) (by omega))]; exact wb4
    have s5 : cellAt h5 h2.nx 0 = some (.slice b 0 X.length (.exact (X.length + 1))) := by rw [cellAt_of_get (g54 _ (by omega) (by omega))]; exact s4
    have r05 : cellAt h5 (h.nx + 1) 0 = some (.int .u64 (.ofNat r.1)) := by rw [cellAt_of_get (g54 _ (by omega) (by omega))]; exact r0
    have r15 : cellAt h5 (h.nx + 1) 1 = some (.int .u64 (.ofNat r.2)) := by rw [cellAt_of_get (g54 _ (by omega) (by omega))]; exact r1
    have z05 : cellAt h5 (h.nx + 2) 0 = some .nilslice := by rw [cellAt_of_get (g54 _ (by omega) (by omega))]; exact z0
    have w05 : wrAt h5 (h.nx + 2) = true := by rw [wrAt_of_get (g54 _ (by omega) (by omega))]; exact w0
    have a25 : cellAt h5 b ((X.length - 1) * 6 + 2) = some (.slice bp 0 x.1.puts.length (.exact (x.1.puts.length + 1))) := by rw [cellAt_of_get (g54 _ (by omega) (by omega))]; exact a2
    have nb0 : (b = h.nx + 1) = False := by simp; omega
    have nb1 : (b = h.nx + 2) = False := by simp; omega
    have nb2' : (h2.nx = b) = False := by simp; omega
    have nb3 : (h.nx + 2 = b) = False := by simp; omega
    have nb4 : (h.nx + 1 = b) = False := by simp; omega
    repeat' (first
      | ((with_reducible show codeW _ _ _ _ (codeI _ _) _ _ _ _); first | (apply st_seq; exact rfl) | (refine st_reg ?_ rfl rfl ?_; exact rfl; (conv => arg 4; whnf); (conv => arg 3; whnf)) | (refine st_dw ?_ rfl rfl ?_ ?_; exact rfl; kernel_rfl; (conv => arg 5; whnf); (conv => arg 3; whnf)) | (refine st_cond ?_ rfl ?_; exact rfl; (conv => arg 1; arg 2; whnf)) | (refine st_block ?_ rfl ?_; exact rfl; (conv => arg 9; arg 1; whnf)) | (apply st_skip; exact rfl) | (refine st_exit ?_ rfl ?_; exact rfl; (conv in exitId _ => whnf)) | (apply st_ret; exact rfl))
      | ((with_reducible refine retW_intro rfl ?_); (conv => arg 2; whnf))
      | ((with_reducible refine ifB_split (fun hb => ?_) (fun hb => ?_)) <;> (try rw [Bool.not_true] at hb) <;> (try rw [Bool.not_false] at hb) <;> (try simp only [hb]))
      | ((with_reducible refine gW_split (fun hb => ?_) (fun hb => ?_)) <;> (try rw [Bool.not_true] at hb) <;> (try rw [Bool.not_false] at hb) <;> (try simp only [hb]))
      | ((with_reducible refine gX_split (fun hb => ?_) (fun hb => ?_)) <;> (try rw [Bool.not_true] at hb) <;> (try rw [Bool.not_false] at hb) <;> (try simp only [hb]))
      | ((with_reducible show drawI _ _ _ _ _ _ _ _ _); first | (apply kI_rd; exact rfl) | (apply kI_rg; exact rfl; exact rfl) | (apply kI_cv; exact rfl; kernel_rfl) | (apply kI_al; exact rfl; exact rfl) | (apply kI_ex; exact rfl; kernel_rfl; exact rfl) | (apply kI_eg; exact rfl; kernel_rfl; exact rfl) | (apply kI_nl))
      | ((with_reducible show eOk _ _ _ _ _ _); first | (exact eok_nil) | (apply ke_rd; exact rfl) | (apply ke_rg; exact rfl; exact rfl) | (apply ke_cv; exact rfl; kernel_rfl) | (apply ke_al; exact rfl; exact rfl))
      | ((with_reducible apply freshIs_new); kernel_rfl)
      | (simp only [B, xB, F, Nat.reduceLT, Nat.reduceLeDiff, Nat.reduceEqDiff, Nat.reduceAdd, Nat.reduceMul, Nat.reduceSub, ↓reduceIte, eq_self, s4, s5, e1, lt1, a25, r05, r15, z05, hbn, hbn1, put_sts, wb5, w05, cellAt_sts wb5, nb0, nb1, nb2', nb3, nb4, wrAt_sts]))
    have hYl : (X.length - 1) * 6 + 2 = Y.length * 6 + 2 := by rw [hXl]; rfl
    rw [hYl]
    obtain ⟨p', hp'⟩ : ∃ p', p' = AV.slice bp 0 (x.1.puts.length + 1) (.exact (x.1.puts.length + 1)) := ⟨_, rfl⟩
    rw [← hp']
    have wb6 : wrAt (h5.sts b (Y.length * 6 + 2) [p']) (h.nx + 2) = true := by rw [wrAt_sts]; exact w05
    have g6 : ∀ c v, c ≠ b → c ≠ h.nx + 2 → ((h5.sts b (Y.length * 6 + 2) [p']).sts (h.nx + 2) 0 [v]).t.get c = h5.t.get c := fun c v n1 n2 => by rw [get_sts _ _ _ _ n2, get_sts _ _ _ _ n1]
    have cb : ∀ j v, cellAt ((h5.sts b (Y.length * 6 + 2) [p']).sts (h.nx + 2) 0 [v]) b j = if j = Y.length * 6 + 2 then some p' else cellAt h2 b j := fun j v => by
      rw [cellAt_of_get (get_sts _ _ _ _ (by omega)), cellAt_sts wb5]
      by_cases q : j = Y.length * 6 + 2
      · subst q; rw [if_pos ⟨rfl, Nat.le_refl _, by simp⟩, if_pos rfl, Nat.sub_self]; rfl
      · rw [if_neg (by simp only [List.length_cons, List.length_nil]; omega), if_neg q, cellAt_of_get (g54 _ (by omega) (by omega)), hb4]
    have x6 : ∀ v, ((h5.sts b (Y.length * 6 + 2) [p']).sts (h.nx + 2) 0 [v]).nx = h4.nx + 1 := fun v => by rw [nx_sts, nx_sts, x5]
    have o6 : ∀ v, Only h ((h5.sts b (Y.length * 6 + 2) [p']).sts (h.nx + 2) 0 [v]) [] := fun v => ⟨by rw [x6]; omega, fun c hc _ => by rw [g6 c v (by omega) (by omega), g54 c (by omega) (by omega)]; exact oh4.2 c hc (by simp)⟩
    have hput : putL (X.map (·.1)) r made nth = (Y ++ [({ x.1 with puts := x.1.puts ++ [r] }, p')]).map (fun z : Gn × AV => z.1) := by
      have hend : x.1.ended = false := by
        rw [hX0] at hop; simp only [opn, List.map_append, List.map_cons, List.map_nil, List.getLast?_append, List.getLast?_singleton, Option.some_or] at hop
        simpa using hop
      unfold putL
      rw [hX0]
      simp only [List.map_append, List.map_cons, List.map_nil, List.getLast?_append, List.getLast?_singleton, Option.some_or, hend, List.dropLast_concat]
      simp
    refine ⟨o6 _, .slice b 0 X.length (.exact (X.length + 1)), Y ++ [({ x.1 with puts := x.1.puts ++ [r] }, p')], rfl, hput.symm, ⟨?_, fun y hy => ?_⟩, ⟨fun q => by simp at q, fun y z hy q => ?_⟩, fun c q => ?_, fun y hy c q => ?_⟩
    · have hlen2 : (Y ++ [(({ x.1 with puts := x.1.puts ++ [r] } : Gn), p')]).length = X.length := by rw [hXl]; simp
      have hfl : (Y ++ [(({ x.1 with puts := x.1.puts ++ [r] } : Gn), p')]).flatMap gC = (Y ++ [(x.1, p')]).flatMap gC := by
        simp only [List.flatMap_append, List.flatMap_cons, List.flatMap_nil]; rfl
      rw [hfl, hlen2]
      refine .cell _ _ _ _ _ (by rw [x6]; omega) (fun j hj => ?_)
      rw [gCs_len] at hj
      have hj : j < X.length * 6 := by rw [hXl]; simpa using hj
      rw [Nat.zero_add, cb, flat_last Y x.1 (.slice bp 0 x.1.puts.length (.exact (x.1.puts.length + 1))) p' j]
      split
      · rfl
      · rw [← hX']
        have hs2 := has.1
        rw [hXl'] at hs2
        cases hs2 with
        | cell _ _ _ _ _ _ hc => have := hc j (by rw [gCs_len, hXl']; exact hj); rwa [Nat.zero_add] at this
    · rcases List.mem_append.1 hy with hy | hy
      · exact (hh.2 y (by rw [hX0]; exact List.mem_append_left _ hy)).only (o6 _) (fun _ _ => by simp)
      · rw [List.mem_singleton] at hy
        subst hy
        subst hp'
        have hsl2 := has.2 (x.1, .slice bp 0 x.1.puts.length (.exact (x.1.puts.length + 1))) (by rw [hX']; simp)
        have hln : (x.1.puts ++ [r]).length = x.1.puts.length + 1 := by simp
        show SliceAt _ _ (x.1.puts ++ [r]).length (rvsC (x.1.puts ++ [r]))
        rw [hln]
        refine .cell _ _ _ _ _ (by rw [x6]; omega) (fun j hj => ?_)
        have hj : j < (x.1.puts.length + 1) * 2 := by rw [rvs_len, hln] at hj; exact hj
        rw [cellAt_of_get (g6 _ _ (by omega) (by omega)), Nat.zero_add, cc5, ← rvsC_snoc]
        by_cases q : x.1.puts.length * 2 ≤ j
        · rw [if_pos ⟨by omega, by simp only [List.length_cons, List.length_nil]; omega⟩, List.getElem?_append_right (by rw [rvs_len]; exact q), rvs_len, Nat.zero_add]
        · rw [if_neg (by omega), cellAt_new, if_neg (by omega), cellAt_of_get (g4 _ (by omega)), List.getElem?_append_left (by rw [rvs_len]; omega)]
          cases hsl2 with
          | cell _ _ _ _ _ _ hc => have := hc j (by rw [rvs_len]; show j < x.1.puts.length * 2; omega); rwa [Nat.zero_add] at this
    · obtain ⟨_, q2⟩ := List.append_inj' hy rfl
      simp only [List.cons.injEq, and_true] at q2
      rw [← q2] at q
      simp at q
    · cases q; exact hp _ (by omega)
    · rcases List.mem_append.1 hy with hy | hy
      · exact (hob y (by rw [hX0]; exact List.mem_append_left _ hy) c q)
      · rw [List.mem_singleton] at hy
        subst hy
        subst hp'
        cases q; exact hp _ (by omega)
  | false =>
    repeat' (first
      | ((with_reducible show codeW _ _ _ _ (codeI _ _) _ _ _ _); first | (apply st_seq; exact rfl) | (refine st_reg ?_ rfl rfl ?_; exact rfl; (conv => arg 4; whnf); (conv => arg 3; whnf)) | (refine st_dw ?_ rfl rfl ?_ ?_; exact rfl; kernel_rfl; (conv => arg 5; whnf); (conv => arg 3; whnf)) | (refine st_cond ?_ rfl ?_; exact rfl; (conv => arg 1; arg 2; whnf)) | (refine st_block ?_ rfl ?_; exact rfl; (conv => arg 9; arg 1; whnf)) | (apply st_skip; exact rfl) | (refine st_exit ?_ rfl ?_; exact rfl; (conv in exitId _ => whnf)) | (apply st_ret; exact rfl))
      | ((with_reducible refine retW_intro rfl ?_); (conv => arg 2; whnf))
      | ((with_reducible refine ifB_split (fun hb => ?_) (fun hb => ?_)) <;> (try rw [Bool.not_true] at hb) <;> (try rw [Bool.not_false] at hb) <;> (try simp only [hb]))
      | ((with_reducible refine gW_split (fun hb => ?_) (fun hb => ?_)) <;> (try rw [Bool.not_true] at hb) <;> (try rw [Bool.not_false] at hb) <;> (try simp only [hb]))
      | ((with_reducible refine gX_split (fun hb => ?_) (fun hb => ?_)) <;> (try rw [Bool.not_true] at hb) <;> (try rw [Bool.not_false] at hb) <;> (try simp only [hb]))
      | ((with_reducible show drawI _ _ _ _ _ _ _ _ _); first | (apply kI_rd; exact rfl) | (apply kI_rg; exact rfl; exact rfl) | (apply kI_cv; exact rfl; kernel_rfl) | (apply kI_al; exact rfl; exact rfl) | (apply kI_ex; exact rfl; kernel_rfl; exact rfl) | (apply kI_eg; exact rfl; kernel_rfl; exact rfl) | (apply kI_nl))
      | ((with_reducible show eOk _ _ _ _ _ _); first | (exact eok_nil) | (apply ke_rd; exact rfl) | (apply ke_rg; exact rfl; exact rfl) | (apply ke_cv; exact rfl; kernel_rfl) | (apply ke_al; exact rfl; exact rfl))
      | ((with_reducible apply freshIs_new); kernel_rfl)
      | (simp only [B, xB, F, Nat.reduceLT, Nat.reduceLeDiff, Nat.reduceEqDiff, Nat.reduceAdd, Nat.reduceMul, Nat.reduceSub, ↓reduceIte, eq_self, s4]))
    have hx3 : ∀ l, (h4.newCells 87 l).nx = h4.nx + 1 := fun l => nx_new _ _ _
    refine exW_place (n := 1) (Nat.le_refl _) rfl ?_ (fun i hi => ?_) rfl ?_
    · rw [wrAt_new, if_neg (by omega)]; exact wb4
    · rw [cellAt_new, if_neg (by omega), hb4]
      exact room _ (by simp only [List.length_cons, List.length_nil] at hi; omega)
    intro h5 x5 g5 w5 cc5
    rw [nx_new] at x5
    have g54 : ∀ c, c < h4.nx → c ≠ b → h5.t.get c = h4.t.get c := fun c hc hne => by rw [g5 c hne, get_new _ _ _ (by omega)]
    have ws5 : wrAt h5 h2.nx = true := by rw [wrAt_of_get (g54 _ (by omega) (by omega))]; exact ws4
    have s5 : cellAt h5 h2.nx 0 = some (.slice b 0 X.length (.exact (X.length + 1))) := by rw [cellAt_of_get (g54 _ (by omega) (by omega))]; exact s4
    have e1 : wrapF .i64 (Int.ofNat (X.length + 1) - Int.ofNat 1) = Int.ofNat X.length := by
      have := i64_sub (a := X.length + 1) (b := 1) (by omega) (by omega); rwa [Nat.add_sub_cancel] at this
    have lt1 : (X.length < X.length + 1) = True := by simp
    have a25 : cellAt h5 b (X.length * 6 + 2) = some .nilslice := by rw [cc5, if_pos ⟨by omega, by simp only [List.length_cons, List.length_nil]; omega⟩, show X.length * 6 + 2 - (0 + X.length * 6) = 2 by omega]; rfl
    have r05 : cellAt h5 (h.nx + 1) 0 = some (.int .u64 (.ofNat r.1)) := by rw [cellAt_of_get (g54 _ (by omega) (by omega))]; exact r0
    have r15 : cellAt h5 (h.nx + 1) 1 = some (.int .u64 (.ofNat r.2)) := by rw [cellAt_of_get (g54 _ (by omega) (by omega))]; exact r1
    have z05 : cellAt h5 (h.nx + 2) 0 = some .nilslice := by rw [cellAt_of_get (g54 _ (by omega) (by omega))]; exact z0
    have w05 : wrAt h5 (h.nx + 2) = true := by rw [wrAt_of_get (g54 _ (by omega) (by omega))]; exact w0
    have nb5 : (h.nx + 1 = h2.nx) = False := by simp; omega
    have x5' := x5
    have nb6 : (b = h5.nx) = False := by simp; omega
    have nb7 : (h.nx + 1 = h5.nx) = False := by simp; omega
    repeat' (first
      | ((with_reducible show codeW _ _ _ _ (codeI _ _) _ _ _ _); first | (apply st_seq; exact rfl) | (refine st_reg ?_ rfl rfl ?_; exact rfl; (conv => arg 4; whnf); (conv => arg 3; whnf)) | (refine st_dw ?_ rfl rfl ?_ ?_; exact rfl; kernel_rfl; (conv => arg 5; whnf); (conv => arg 3; whnf)) | (refine st_cond ?_ rfl ?_; exact rfl; (conv => arg 1; arg 2; whnf)) | (refine st_block ?_ rfl ?_; exact rfl; (conv => arg 9; arg 1; whnf)) | (apply st_skip; exact rfl) | (refine st_exit ?_ rfl ?_; exact rfl; (conv in exitId _ => whnf)) | (apply st_ret; exact rfl))
      | ((with_reducible refine retW_intro rfl ?_); (conv => arg 2; whnf))
      | ((with_reducible refine ifB_split (fun hb => ?_) (fun hb => ?_)) <;> (try rw [Bool.not_true] at hb) <;> (try rw [Bool.not_false] at hb) <;> (try simp only [hb]))
      | ((with_reducible refine gW_split (fun hb => ?_) (fun hb => ?_)) <;> (try rw [Bool.not_true] at hb) <;> (try rw [Bool.not_false] at hb) <;> (try simp only [hb]))
      | ((with_reducible refine gX_split (fun hb => ?_) (fun hb => ?_)) <;> (try rw [Bool.not_true] at hb) <;> (try rw [Bool.not_false] at hb) <;> (try simp only [hb]))
      | ((with_reducible show drawI _ _ _ _ _ _ _ _ _); first | (apply kI_rd; exact rfl) | (apply kI_rg; exact rfl; exact rfl) | (apply kI_cv; exact rfl; kernel_rfl) | (apply kI_al; exact rfl; exact rfl) | (apply kI_ex; exact rfl; kernel_rfl; exact rfl) | (apply kI_eg; exact rfl; kernel_rfl; exact rfl) | (apply kI_nl))
      | ((with_reducible show eOk _ _ _ _ _ _); first | (exact eok_nil) | (apply ke_rd; exact rfl) | (apply ke_rg; exact rfl; exact rfl) | (apply ke_cv; exact rfl; kernel_rfl) | (apply ke_al; exact rfl; exact rfl))
      | ((with_reducible apply freshIs_new); kernel_rfl)
      | (simp only [B, xB, F, Nat.reduceLT, Nat.reduceLeDiff, Nat.reduceEqDiff, Nat.reduceAdd, Nat.reduceMul, Nat.reduceSub, ↓reduceIte, eq_self, s5, put_sts, ws5, e1, lt1, cellAt_sts ws5, nb2, a25, r05, r15, nb5, nb6, nb7]))
    refine exW_grows (base := h5.nx) (.none (h := (h5.sts h2.nx 0 [.slice b 0 (X.length + 1) (.exact (X.length + 1))]).newCells 35 [.int .u64 (.ofNat r.1), .int .u64 (.ofNat r.2)])) (by rw [nx_new, nx_sts]; omega) (by omega) (by omega) rfl (by omega) ?_
    intro p' h6 hg' hnx hold hblk
    rw [List.nil_append, Nat.zero_add] at hg'
    rw [nx_new, nx_sts] at hnx hblk
    have g65 : ∀ c, c < h5.nx → c ≠ h2.nx → h6.t.get c = h5.t.get c := fun c hc hne => by rw [hold c (by rw [nx_new, nx_sts]; omega) (by simp [blkOf]), get_new _ _ _ (by rw [nx_sts]; omega), get_sts _ _ _ _ hne]
    have hp1 := hg'.cells
    have hp2 := hg'.one
    have wb6 : wrAt h6 b = true := by rw [wrAt_of_get (g65 _ (by omega) (by omega))]; exact w5
    have w06 : wrAt h6 (h.nx + 2) = true := by rw [wrAt_of_get (g65 _ (by omega) (by omega))]; exact w05
    have a26 : cellAt h6 b (X.length * 6 + 2) = some .nilslice := by rw [cellAt_of_get (g65 _ (by omega) (by omega))]; exact a25
    have r06 : cellAt h6 (h.nx + 1) 0 = some (.int .u64 (.ofNat r.1)) := by rw [cellAt_of_get (g65 _ (by omega) (by omega))]; exact r05
    have r16 : cellAt h6 (h.nx + 1) 1 = some (.int .u64 (.ofNat r.2)) := by rw [cellAt_of_get (g65 _ (by omega) (by omega))]; exact r15
    have z06 : cellAt h6 (h.nx + 2) 0 = some .nilslice := by rw [cellAt_of_get (g65 _ (by omega) (by omega))]; exact z05
    have s6 : cellAt h6 h2.nx 0 = some (.slice b 0 (X.length + 1) (.exact (X.length + 1))) := by
      rw [hold _ (by rw [nx_new, nx_sts]; omega) (by simp [blkOf]) |> cellAt_of_get, cellAt_of_get (get_new _ _ _ (by rw [nx_sts]; omega)), cellAt_sts ws5, if_pos ⟨rfl, Nat.le_refl _, by simp⟩]; rfl
    have nb0 : (b = h.nx + 1) = False := by simp; omega
    have nb1 : (b = h.nx + 2) = False := by simp; omega
    have nb2' : (h2.nx = b) = False := by simp; omega
    have nb3 : (h.nx + 2 = b) = False := by simp; omega
    have nb4 : (h.nx + 1 = b) = False := by simp; omega
    repeat' (first
      | ((with_reducible show codeW _ _ _ _ (codeI _ _) _ _ _ _); first | (apply st_seq; exact rfl) | (refine st_reg ?_ rfl rfl ?_; exact rfl; (conv => arg 4; whnf); (conv => arg 3; whnf)) | (refine st_dw ?_ rfl rfl ?_ ?_; exact rfl; kernel_rfl; (conv => arg 5; whnf); (conv => arg 3; whnf)) | (refine st_cond ?_ rfl ?_; exact rfl; (conv => arg 1; arg 2; whnf)) | (refine st_block ?_ rfl ?_; exact rfl; (conv => arg 9; arg 1; whnf)) | (apply st_skip; exact rfl) | (refine st_exit ?_ rfl ?_; exact rfl; (conv in exitId _ => whnf)) | (apply st_ret; exact rfl))
      | ((with_reducible refine retW_intro rfl ?_); (conv => arg 2; whnf))
      | ((with_reducible refine ifB_split (fun hb => ?_) (fun hb => ?_)) <;> (try rw [Bool.not_true] at hb) <;> (try rw [Bool.not_false] at hb) <;> (try simp only [hb]))
      | ((with_reducible refine gW_split (fun hb => ?_) (fun hb => ?_)) <;> (try rw [Bool.not_true] at hb) <;> (try rw [Bool.not_false] at hb) <;> (try simp only [hb]))
      | ((with_reducible refine gX_split (fun hb => ?_) (fun hb => ?_)) <;> (try rw [Bool.not_true] at hb) <;> (try rw [Bool.not_false] at hb) <;> (try simp only [hb]))
      | ((with_reducible show drawI _ _ _ _ _ _ _ _ _); first | (apply kI_rd; exact rfl) | (apply kI_rg; exact rfl; exact rfl) | (apply kI_cv; exact rfl; kernel_rfl) | (apply kI_al; exact rfl; exact rfl) | (apply kI_ex; exact rfl; kernel_rfl; exact rfl) | (apply kI_eg; exact rfl; kernel_rfl; exact rfl) | (apply kI_nl))
      | ((with_reducible show eOk _ _ _ _ _ _); first | (exact eok_nil) | (apply ke_rd; exact rfl) | (apply ke_rg; exact rfl; exact rfl) | (apply ke_cv; exact rfl; kernel_rfl) | (apply ke_al; exact rfl; exact rfl))
      | ((with_reducible apply freshIs_new); kernel_rfl)
      | (simp only [B, xB, F, Nat.reduceLT, Nat.reduceLeDiff, Nat.reduceEqDiff, Nat.reduceAdd, Nat.reduceMul, Nat.reduceSub, ↓reduceIte, eq_self, s6, put_sts, wb6, w06, a26, r06, r16, z06, hp1, hp2, cellAt_sts wb6, nb0, nb1, nb2', nb3, nb4, wrAt_sts]))
    obtain ⟨g, hgd⟩ : ∃ g : Gn, g = ⟨made, nth, [r], (0, 0), false⟩ := ⟨_, rfl⟩
    have hfst : X'.map (fun z : Gn × AV => z.1) = X.map (fun z : Gn × AV => z.1) := by
      rcases gs_last X with hX0 | ⟨Y, x, hX0⟩
      · rw [hnil hX0, hX0]
      · obtain ⟨bp, hX', _⟩ := hlast Y x hX0
        rw [hX', hX0]; simp
    have hXl' : X'.length = X.length := by have := congrArg List.length hfst; simpa using this
    have hput : putL (X.map (·.1)) r made nth = (X' ++ [(g, p')]).map (fun z : Gn × AV => z.1) := by
      rw [List.map_append, hfst, hgd]
      unfold putL
      rcases gs_last X with hX0 | ⟨Y, x, hX0⟩
      · rw [hX0]; rfl
      · have hend : x.1.ended = true := by
          rw [hX0] at hop; simp only [opn, List.map_append, List.map_cons, List.map_nil, List.getLast?_append, List.getLast?_singleton, Option.some_or] at hop
          simpa using hop
        rw [hX0]
        simp only [List.map_append, List.map_cons, List.map_nil, List.getLast?_append, List.getLast?_singleton, Option.some_or, hend, if_true]
    have cb : ∀ j v, cellAt ((h6.sts b (X.length * 6 + 2) [p']).sts (h.nx + 2) 0 [v]) b j = if j = X.length * 6 + 2 then some p' else cellAt h5 b j := fun j v => by
      rw [cellAt_of_get (get_sts _ _ _ _ (by omega)), cellAt_sts wb6]
      by_cases q : j = X.length * 6 + 2
      · subst q; rw [if_pos ⟨rfl, Nat.le_refl _, by simp⟩, if_pos rfl, Nat.sub_self]; rfl
      · rw [if_neg (by simp only [List.length_cons, List.length_nil]; omega), if_neg q, cellAt_of_get (g65 _ (by omega) (by omega))]
    have x7 : ∀ v, ((h6.sts b (X.length * 6 + 2) [p']).sts (h.nx + 2) 0 [v]).nx = h6.nx := fun v => by rw [nx_sts, nx_sts]
    have o7 : ∀ v, Only h ((h6.sts b (X.length * 6 + 2) [p']).sts (h.nx + 2) 0 [v]) [] := fun v => ⟨by rw [x7]; omega, fun c hc _ => by
      rw [get_sts _ _ _ _ (by omega), get_sts _ _ _ _ (by omega), g65 c (by omega) (by omega), g54 c (by omega) (by omega)]; exact oh4.2 c hc (by simp)⟩
    have hlen2 : (X' ++ [(g, p')]).length = X.length + 1 := by rw [List.length_append, hXl']; rfl
    refine ⟨o7 _, .slice b 0 (X.length + 1) (.exact (X.length + 1)), X' ++ [(g, p')], rfl, hput.symm, ⟨?_, fun y hy => ?_⟩, ⟨fun q => by simp at q, fun y z hy q => ?_⟩, fun c q => ?_, fun y hy c q => ?_⟩
    · rw [hlen2]
      refine .cell _ _ _ _ _ (by rw [x7]; omega) (fun j hj => ?_)
      rw [gCs_len, hlen2] at hj
      rw [Nat.zero_add, cb, flat_last X' g .nilslice p' j, hXl']
      split
      · rfl
      · rw [cc5, Nat.zero_add]
        simp only [List.flatMap_append, List.flatMap_cons, List.flatMap_nil, List.append_nil]
        by_cases q : X.length * 6 ≤ j
        · rw [if_pos ⟨q, by simp only [List.length_cons, List.length_nil]; omega⟩, List.getElem?_append_right (by rw [gCs_len, hXl']; exact q), gCs_len, hXl', hgd]; rfl
        · rw [if_neg (by omega), cellAt_new, if_neg (by omega), hb4, List.getElem?_append_left (by rw [gCs_len, hXl']; omega)]
          have hs2 := has.1
          rw [hXl'] at hs2
          cases hs2 with
          | cell _ _ _ _ _ _ hc => have := hc j (by rw [gCs_len, hXl']; omega); rwa [Nat.zero_add] at this
    · rcases List.mem_append.1 hy with hy | hy
      · have hsl := has4.2 y hy
        have hbk := SliceAt.blk hsl
        have o47 : ∀ c, c < h4.nx → c ≠ b → c ≠ h2.nx → c ≠ h.nx + 2 → ∀ v, ((h6.sts b (X.length * 6 + 2) [p']).sts (h.nx + 2) 0 [v]).t.get c = h4.t.get c := fun c hc n1 n2 n3 v => by
          rw [get_sts _ _ _ _ n3, get_sts _ _ _ _ n1, g65 c (by omega) n2, g54 c hc n1]
        refine hsl.only (S := [b, h2.nx, h.nx + 2]) ⟨by rw [x7]; omega, fun c hc hs => ?_⟩ (fun c hc => ?_)
        · simp only [List.mem_cons, List.mem_nil_iff, or_false, not_or] at hs
          exact o47 c hc hs.1 hs.2.1 hs.2.2 _
        · rcases gs_last X with hX0 | ⟨Y, x, hX0⟩
          · rw [hnil hX0] at hy; cases hy
          · obtain ⟨bp, hX', bp1, bp2, bp3, _⟩ := hlast Y x hX0
            rw [hX'] at hy
            rcases List.mem_append.1 hy with hy | hy
            · have := SliceAt.blk (hh.2 y (by rw [hX0]; exact List.mem_append_left _ hy)) c hc
              simp only [List.mem_cons, List.mem_nil_iff, or_false, not_or]; omega
            · rw [List.mem_singleton] at hy
              subst hy
              cases hc
              simp only [List.mem_cons, List.mem_nil_iff, or_false, not_or]; omega
      · rw [List.mem_singleton] at hy
        subst hy
        rw [hgd]
        refine (hg'.slice).only (S := [b, h.nx + 2]) ((Only.refl h6 _).sts (.inl (by simp)) |>.sts (.inl (by simp))) (fun c hc => ?_)
        rw [hblk] at hc; cases hc
        simp only [List.mem_cons, List.mem_nil_iff, or_false, not_or]; omega
    · obtain ⟨_, q2⟩ := List.append_inj' hy rfl
      simp only [List.cons.injEq, and_true] at q2
      rw [← q2, hgd] at q
      simp at q
    · cases q; exact hp _ (by omega)
    · rcases List.mem_append.1 hy with hy | hy
      · rcases gs_last X with hX0 | ⟨Y, x, hX0⟩
        · rw [hnil hX0] at hy; cases hy
        · obtain ⟨bp, hX', bp1, bp2, bp3, _⟩ := hlast Y x hX0
          rw [hX'] at hy
          rcases List.mem_append.1 hy with hy | hy
          · exact (hob y (by rw [hX0]; exact List.mem_append_left _ hy) c q)
          · rw [List.mem_singleton] at hy
            subst hy
            cases q; exact hp _ (by omega)
      · rw [List.mem_singleton] at hy
        subst hy
        have := (hg'.base q).1
        exact hp _ (by omega)
end
end Go.Proofs.Ytlkngpckibidlaa.W

namespace Go.Proofs.Ytlkngpckibidlaa.W
open Go Go.AX
noncomputable section
set_option maxRecDepth 100000
def errV (n : Nat) : AV := .int .i64 (.ofNat n)
def PostE (p : Nat → Prop) (h : H) (L : List Gn) (e : Nat) (v : AV) (h' : H) : Prop := Only h h' [] ∧ ∃ g, v = .tuple [g, errV e] ∧ GensP p h' g L
def putP (L : List Gn) (r : Rv) : List Gn := if fitsB L r then putL L r r.1 1 else L
def putE (L : List Gn) (r : Rv) : Nat := if fitsB L r then 0 else 2
def offP (p : Nat → Prop) (lo hi : Nat) (b : Nat) : Prop := p b ∧ (b < lo ∨ hi ≤ b)
theorem PutC (p : Nat → Prop) (h : H) (v : AV) (L : List Gn) (r : Rv) (hp : ∀ b, h.nx ≤ b → p b) (hg : GensP p h v L) (hz : Sz 900 L) : PushC P (.enter 18 [v, rvA r] h) (PostE p h (putP L r) (putE L r)) := by
  have hg0 := hg
  obtain ⟨s, X, rfl, rfl, hh, hn, hbk⟩ := hg
  have hso := SliceAt.one hh.1
  have e0 : rvA r = .agg [.int .u64 (.ofNat r.1), .int .u64 (.ofNat r.2)] := rfl
  rw [e0]
  refine pushC_of_codeW (fn := Try.f18) (c := bodyC Try.f18) Try.func18 rfl ?_
  show codeW P 18 16 none _ _ _ _ _
  refine codeW_root ?_
  repeat' (first
    | ((with_reducible show codeW _ _ _ _ (codeI _ _) _ _ _ _); first | (apply st_seq; exact rfl) | (refine st_reg ?_ rfl rfl ?_; exact rfl; (conv => arg 4; whnf); (conv => arg 3; whnf)) | (refine st_dw ?_ rfl rfl ?_ ?_; exact rfl; kernel_rfl; (conv => arg 5; whnf); (conv => arg 3; whnf)) | (refine st_cond ?_ rfl ?_; exact rfl; (conv => arg 1; arg 2; whnf)) | (refine st_block ?_ rfl ?_; exact rfl; (conv => arg 9; arg 1; whnf)) | (apply st_skip; exact rfl) | (refine st_exit ?_ rfl ?_; exact rfl; (conv in exitId _ => whnf)) | (apply st_ret; exact rfl))
    | ((with_reducible refine retW_intro rfl ?_); (conv => arg 2; whnf))
    | ((with_reducible refine ifB_split (fun hb => ?_) (fun hb => ?_)) <;> (try rw [Bool.not_true] at hb) <;> (try rw [Bool.not_false] at hb) <;> (try simp only [hb]))
    | ((with_reducible refine gW_split (fun hb => ?_) (fun hb => ?_)) <;> (try rw [Bool.not_true] at hb) <;> (try rw [Bool.not_false] at hb) <;> (try simp only [hb]))
    | ((with_reducible refine gX_split (fun hb => ?_) (fun hb => ?_)) <;> (try rw [Bool.not_true] at hb) <;> (try rw [Bool.not_false] at hb) <;> (try simp only [hb]))
    | ((with_reducible show drawI _ _ _ _ _ _ _ _ _); first | (apply kI_rd; exact rfl) | (apply kI_rg; exact rfl; exact rfl) | (apply kI_cv; exact rfl; kernel_rfl) | (apply kI_al; exact rfl; exact rfl) | (apply kI_ex; exact rfl; kernel_rfl; exact rfl) | (apply kI_eg; exact rfl; kernel_rfl; exact rfl) | (apply kI_nl))
    | ((with_reducible show eOk _ _ _ _ _ _); first | (exact eok_nil) | (apply ke_rd; exact rfl) | (apply ke_rg; exact rfl; exact rfl) | (apply ke_cv; exact rfl; kernel_rfl) | (apply ke_al; exact rfl; exact rfl))
    | ((with_reducible apply freshIs_new); kernel_rfl)
    | (simp only [B, xB, F, Nat.reduceLT, Nat.reduceLeDiff, Nat.reduceEqDiff, Nat.reduceAdd, Nat.reduceMul, Nat.reduceSub, ↓reduceIte, eq_self, hso]))
  obtain ⟨h1, hH⟩ : ∃ h1, h1 = (((h.newCells 26 [s]).newCells 35 [.int .u64 (.ofNat r.1), .int .u64 (.ofNat r.2)]).newCells 26 [.nilslice]) := ⟨_, rfl⟩
  have x1 : h1.nx = h.nx + 3 := by rw [hH]; rfl
  have o1 : Only h h1 [] := by rw [hH]; exact (((Only.refl _ _).new _ _).new _ _).new _ _
  have c0 : cellAt h1 h.nx 0 = some s := by rw [hH]; simp only [B, xB, F, Nat.reduceLT, Nat.reduceLeDiff, Nat.reduceEqDiff, Nat.reduceAdd, Nat.reduceMul, Nat.reduceSub, ↓reduceIte, eq_self]
  have r0 : cellAt h1 (h.nx + 1) 0 = some (.int .u64 (.ofNat r.1)) := by rw [hH]; simp only [B, xB, F, Nat.reduceLT, Nat.reduceLeDiff, Nat.reduceEqDiff, Nat.reduceAdd, Nat.reduceMul, Nat.reduceSub, ↓reduceIte, eq_self]
  have r1 : cellAt h1 (h.nx + 1) 1 = some (.int .u64 (.ofNat r.2)) := by rw [hH]; simp only [B, xB, F, Nat.reduceLT, Nat.reduceLeDiff, Nat.reduceEqDiff, Nat.reduceAdd, Nat.reduceMul, Nat.reduceSub, ↓reduceIte, eq_self]
  have z0 : cellAt h1 (h.nx + 2) 0 = some .nilslice := by rw [hH]; simp only [B, xB, F, Nat.reduceLT, Nat.reduceLeDiff, Nat.reduceEqDiff, Nat.reduceAdd, Nat.reduceMul, Nat.reduceSub, ↓reduceIte, eq_self]
  have w0 : wrAt h1 (h.nx + 2) = true := by rw [hH]; simp only [B, xB, F, Nat.reduceLT, Nat.reduceLeDiff, Nat.reduceEqDiff, Nat.reduceAdd, Nat.reduceMul, Nat.reduceSub, ↓reduceIte, eq_self]
  rw [← hH]
  refine ((fitsC h1 _ _ r (hg0.at.keep o1) (hz.le (by omega))).call P).mono P ?_
  rintro v h2 ⟨rfl, o2⟩
  have oo : Only h h2 [] := o1.trans o2 (fun _ h => h) (fun _ h => by cases h)
  have x2 := o2.1
  have c0 : cellAt h2 h.nx 0 = some s := by rw [o2.cell (by omega) (by simp)]; exact c0
  have r0 : cellAt h2 (h.nx + 1) 0 = some (.int .u64 (.ofNat r.1)) := by rw [o2.cell (by omega) (by simp)]; exact r0
  have r1 : cellAt h2 (h.nx + 1) 1 = some (.int .u64 (.ofNat r.2)) := by rw [o2.cell (by omega) (by simp)]; exact r1
  have z0 : cellAt h2 (h.nx + 2) 0 = some .nilslice := by rw [o2.cell (by omega) (by simp)]; exact z0
  have w0 : wrAt h2 (h.nx + 2) = true := by rw [o2.wr (by omega) (by simp)]; exact w0
  have hg2 : GensP (offP p h.nx h2.nx) h2 (.agg [s]) (X.map (·.1)) := (hg0.mono fun b hb q => ⟨q, .inl hb⟩).keep0 oo
  have ho2 : ∀ v, Only h2 (h2.sts (h.nx + 2) 0 [v]) [h.nx + 2] := fun v => (Only.refl _ _).sts (.inl (by simp))
  have hoff : ∀ c, c ∈ [h.nx + 2] → ¬ offP p h.nx h2.nx c := fun c hc q => by rw [List.mem_singleton] at hc; subst hc; have := q.2; omega
  unfold PostE putP putE errV
  cases hf : fitsB (X.map (·.1)) r with
  | false =>
    repeat' (first
      | ((with_reducible show codeW _ _ _ _ (codeI _ _) _ _ _ _); first | (apply st_seq; exact rfl) | (refine st_reg ?_ rfl rfl ?_; exact rfl; (conv => arg 4; whnf); (conv => arg 3; whnf)) | (refine st_dw ?_ rfl rfl ?_ ?_; exact rfl; kernel_rfl; (conv => arg 5; whnf); (conv => arg 3; whnf)) | (refine st_cond ?_ rfl ?_; exact rfl; (conv => arg 1; arg 2; whnf)) | (refine st_block ?_ rfl ?_; exact rfl; (conv => arg 9; arg 1; whnf)) | (apply st_skip; exact rfl) | (refine st_exit ?_ rfl ?_; exact rfl; (conv in exitId _ => whnf)) | (apply st_ret; exact rfl))
      | ((with_reducible refine retW_intro rfl ?_); (conv => arg 2; whnf))
      | ((with_reducible refine ifB_split (fun hb => ?_) (fun hb => ?_)) <;> (try rw [Bool.not_true] at hb) <;> (try rw [Bool.not_false] at hb) <;> (try simp only [hb]))
      | ((with_reducible refine gW_split (fun hb => ?_) (fun hb => ?_)) <;> (try rw [Bool.not_true] at hb) <;> (try rw [Bool.not_false] at hb) <;> (try simp only [hb]))
      | ((with_reducible refine gX_split (fun hb => ?_) (fun hb => ?_)) <;> (try rw [Bool.not_true] at hb) <;> (try rw [Bool.not_false] at hb) <;> (try simp only [hb]))
      | ((with_reducible show drawI _ _ _ _ _ _ _ _ _); first | (apply kI_rd; exact rfl) | (apply kI_rg; exact rfl; exact rfl) | (apply kI_cv; exact rfl; kernel_rfl) | (apply kI_al; exact rfl; exact rfl) | (apply kI_ex; exact rfl; kernel_rfl; exact rfl) | (apply kI_eg; exact rfl; kernel_rfl; exact rfl) | (apply kI_nl))
      | ((with_reducible show eOk _ _ _ _ _ _); first | (exact eok_nil) | (apply ke_rd; exact rfl) | (apply ke_rg; exact rfl; exact rfl) | (apply ke_cv; exact rfl; kernel_rfl) | (apply ke_al; exact rfl; exact rfl))
      | ((with_reducible apply freshIs_new); kernel_rfl)
      | (simp only [B, xB, F, Nat.reduceLT, Nat.reduceLeDiff, Nat.reduceEqDiff, Nat.reduceAdd, Nat.reduceMul, Nat.reduceSub, ↓reduceIte, eq_self, c0, z0, put_sts, w0, cellAt_sts w0, hso]))
    exact ⟨oo.sts (.inr (by omega)), _, rfl, (hg2.keep (ho2 _) hoff).mono fun b _ q => q.1⟩
  | true =>
    repeat' (first
      | ((with_reducible show codeW _ _ _ _ (codeI _ _) _ _ _ _); first | (apply st_seq; exact rfl) | (refine st_reg ?_ rfl rfl ?_; exact rfl; (conv => arg 4; whnf); (conv => arg 3; whnf)) | (refine st_dw ?_ rfl rfl ?_ ?_; exact rfl; kernel_rfl; (conv => arg 5; whnf); (conv => arg 3; whnf)) | (refine st_cond ?_ rfl ?_; exact rfl; (conv => arg 1; arg 2; whnf)) | (refine st_block ?_ rfl ?_; exact rfl; (conv => arg 9; arg 1; whnf)) | (apply st_skip; exact rfl) | (refine st_exit ?_ rfl ?_; exact rfl; (conv in exitId _ => whnf)) | (apply st_ret; exact rfl))
      | ((with_reducible refine retW_intro rfl ?_); (conv => arg 2; whnf))
      | ((with_reducible refine ifB_split (fun hb => ?_) (fun hb => ?_)) <;> (try rw [Bool.not_true] at hb) <;> (try rw [Bool.not_false] at hb) <;> (try simp only [hb]))
      | ((with_reducible refine gW_split (fun hb => ?_) (fun hb => ?_)) <;> (try rw [Bool.not_true] at hb) <;> (try rw [Bool.not_false] at hb) <;> (try simp only [hb]))
      | ((with_reducible refine gX_split (fun hb => ?_) (fun hb => ?_)) <;> (try rw [Bool.not_true] at hb) <;> (try rw [Bool.not_false] at hb) <;> (try simp only [hb]))
      | ((with_reducible show drawI _ _ _ _ _ _ _ _ _); first | (apply kI_rd; exact rfl) | (apply kI_rg; exact rfl; exact rfl) | (apply kI_cv; exact rfl; kernel_rfl) | (apply kI_al; exact rfl; exact rfl) | (apply kI_ex; exact rfl; kernel_rfl; exact rfl) | (apply kI_eg; exact rfl; kernel_rfl; exact rfl) | (apply kI_nl))
      | ((with_reducible show eOk _ _ _ _ _ _); first | (exact eok_nil) | (apply ke_rd; exact rfl) | (apply ke_rg; exact rfl; exact rfl) | (apply ke_cv; exact rfl; kernel_rfl) | (apply ke_al; exact rfl; exact rfl))
      | ((with_reducible apply freshIs_new); kernel_rfl)
      | (simp only [B, xB, F, Nat.reduceLT, Nat.reduceLeDiff, Nat.reduceEqDiff, Nat.reduceAdd, Nat.reduceMul, Nat.reduceSub, ↓reduceIte, eq_self, c0, r0, r1, z0]))
    refine ((putC (offP p h.nx h2.nx) h2 _ _ r r.1 1 (fun b hb => ⟨hp b (by omega), .inr hb⟩) hg2 hz).call P).mono P ?_
    rintro v h3 ⟨o3, hg3⟩
    have hg30 := hg3
    obtain ⟨s3, X3, rfl, -, hh3, -, -⟩ := hg3
    have hso3 := SliceAt.one hh3.1
    have w3 : wrAt h3 (h.nx + 2) = true := by rw [o3.wr (by omega) (by simp)]; exact w0
    have z3 : cellAt h3 (h.nx + 2) 0 = some .nilslice := by rw [o3.cell (by omega) (by simp)]; exact z0
    have oo3 : Only h h3 [] := oo.trans o3 (fun _ h => h) (fun _ h => by cases h)
    have x3 := o3.1
    have o34 : ∀ v, Only h3 (h3.sts (h.nx + 2) 0 [v]) [h.nx + 2] := fun v => (Only.refl _ _).sts (.inl (by simp))
    repeat' (first
      | ((with_reducible show codeW _ _ _ _ (codeI _ _) _ _ _ _); first | (apply st_seq; exact rfl) | (refine st_reg ?_ rfl rfl ?_; exact rfl; (conv => arg 4; whnf); (conv => arg 3; whnf)) | (refine st_dw ?_ rfl rfl ?_ ?_; exact rfl; kernel_rfl; (conv => arg 5; whnf); (conv => arg 3; whnf)) | (refine st_cond ?_ rfl ?_; exact rfl; (conv => arg 1; arg 2; whnf)) | (refine st_block ?_ rfl ?_; exact rfl; (conv => arg 9; arg 1; whnf)) | (apply st_skip; exact rfl) | (refine st_exit ?_ rfl ?_; exact rfl; (conv in exitId _ => whnf)) | (apply st_ret; exact rfl))
      | ((with_reducible refine retW_intro rfl ?_); (conv => arg 2; whnf))
      | ((with_reducible refine ifB_split (fun hb => ?_) (fun hb => ?_)) <;> (try rw [Bool.not_true] at hb) <;> (try rw [Bool.not_false] at hb) <;> (try simp only [hb]))
      | ((with_reducible refine gW_split (fun hb => ?_) (fun hb => ?_)) <;> (try rw [Bool.not_true] at hb) <;> (try rw [Bool.not_false] at hb) <;> (try simp only [hb]))
      | ((with_reducible refine gX_split (fun hb => ?_) (fun hb => ?_)) <;> (try rw [Bool.not_true] at hb) <;> (try rw [Bool.not_false] at hb) <;> (try simp only [hb]))
      | ((with_reducible show drawI _ _ _ _ _ _ _ _ _); first | (apply kI_rd; exact rfl) | (apply kI_rg; exact rfl; exact rfl) | (apply kI_cv; exact rfl; kernel_rfl) | (apply kI_al; exact rfl; exact rfl) | (apply kI_ex; exact rfl; kernel_rfl; exact rfl) | (apply kI_eg; exact rfl; kernel_rfl; exact rfl) | (apply kI_nl))
      | ((with_reducible show eOk _ _ _ _ _ _); first | (exact eok_nil) | (apply ke_rd; exact rfl) | (apply ke_rg; exact rfl; exact rfl) | (apply ke_cv; exact rfl; kernel_rfl) | (apply ke_al; exact rfl; exact rfl))
      | ((with_reducible apply freshIs_new); kernel_rfl)
      | (simp only [B, xB, F, Nat.reduceLT, Nat.reduceLeDiff, Nat.reduceEqDiff, Nat.reduceAdd, Nat.reduceMul, Nat.reduceSub, ↓reduceIte, eq_self, z3, put_sts, w3, cellAt_sts w3, hso3]))
    exact ⟨oo3.sts (.inr (by omega)), _, rfl, (hg30.keep (o34 _) hoff).mono fun b _ q => q.1⟩
def tombL (L : List Gn) (r : Rv) : List Gn :=
  match L.getLast? with
  | some g => L.dropLast ++ [{ g with en := r, ended := true }]
  | none => []
def tombP (L : List Gn) (r : Rv) : List Gn := if fitsB L r && opn L then tombL L r else L
def tombE (L : List Gn) (r : Rv) : Nat := if fitsB L r then (if opn L then 0 else 5) else 2
def Opq (L : List Gn) : Prop := ∀ Y g, L = Y ++ [g] → g.ended = false → g.puts ≠ []
theorem flat_at (Y : List (Gn × AV)) (g : Gn × AV) (j : Nat) : ((Y ++ [g]).flatMap gC)[j]? = if j < Y.length * 6 then (Y.flatMap gC)[j]? else (gC g)[j - Y.length * 6]? := by
  simp only [List.flatMap_append, List.flatMap_cons, List.flatMap_nil, List.append_nil]
  by_cases q : j < Y.length * 6
  · rw [if_pos q, List.getElem?_append_left (by rw [gCs_len]; exact q)]
  · rw [if_neg q, List.getElem?_append_right (by rw [gCs_len]; omega), gCs_len]
theorem TombC (p : Nat → Prop) (h : H) (v : AV) (L : List Gn) (r : Rv) (hp : ∀ b, h.nx ≤ b → p b) (hg : GensP p h v L) (hz : Sz 900 L) (hq : Opq L) : PushC P (.enter 20 [v, rvA r] h) (PostE p h (tombP L r) (tombE L r)) := by
  have hg0 := hg
  obtain ⟨s, X, rfl, rfl, hh, hn, hbk⟩ := hg
  have hso := SliceAt.one hh.1
  have hXz : X.length ≤ 900 := by have := hz.1; simpa using this
  have e0 : rvA r = .agg [.int .u64 (.ofNat r.1), .int .u64 (.ofNat r.2)] := rfl
  rw [e0]
  refine pushC_of_codeW (fn := Try.f20) (c := bodyC Try.f20) Try.func20 rfl ?_
  show codeW P 20 36 none _ _ _ _ _
  refine codeW_root ?_
  repeat' (first
    | ((with_reducible show codeW _ _ _ _ (codeI _ _) _ _ _ _); first | (apply st_seq; exact rfl) | (refine st_reg ?_ rfl rfl ?_; exact rfl; (conv => arg 4; whnf); (conv => arg 3; whnf)) | (refine st_dw ?_ rfl rfl ?_ ?_; exact rfl; kernel_rfl; (conv => arg 5; whnf); (conv => arg 3; whnf)) | (refine st_cond ?_ rfl ?_; exact rfl; (conv => arg 1; arg 2; whnf)) | (refine st_block ?_ rfl ?_; exact rfl; (conv => arg 9; arg 1; whnf)) | (apply st_skip; exact rfl) | (refine st_exit ?_ rfl ?_; exact rfl; (conv in exitId _ => whnf)) | (apply st_ret; exact rfl))
    | ((with_reducible refine retW_intro rfl ?_); (conv => arg 2; whnf))
    | ((with_reducible refine ifB_split (fun hb => ?_) (fun hb => ?_)) <;> (try rw [Bool.not_true] at hb) <;> (try rw [Bool.not_false] at hb) <;> (try simp only [hb]))
    | ((with_reducible refine gW_split (fun hb => ?_) (fun hb => ?_)) <;> (try rw [Bool.not_true] at hb) <;> (try rw [Bool.not_false] at hb) <;> (try simp only [hb]))
    | ((with_reducible refine gX_split (fun hb => ?_) (fun hb => ?_)) <;> (try rw [Bool.not_true] at hb) <;> (try rw [Bool.not_false] at hb) <;> (try simp only [hb]))
    | ((with_reducible show drawI _ _ _ _ _ _ _ _ _); first | (apply kI_rd; exact rfl) | (apply kI_rg; exact rfl; exact rfl) | (apply kI_cv; exact rfl; kernel_rfl) | (apply kI_al; exact rfl; exact rfl) | (apply kI_ex; exact rfl; kernel_rfl; exact rfl) | (apply kI_eg; exact rfl; kernel_rfl; exact rfl) | (apply kI_nl))
    | ((with_reducible show eOk _ _ _ _ _ _); first | (exact eok_nil) | (apply ke_rd; exact rfl) | (apply ke_rg; exact rfl; exact rfl) | (apply ke_cv; exact rfl; kernel_rfl) | (apply ke_al; exact rfl; exact rfl))
    | ((with_reducible apply freshIs_new); kernel_rfl)
    | (simp only [B, xB, F, Nat.reduceLT, Nat.reduceLeDiff, Nat.reduceEqDiff, Nat.reduceAdd, Nat.reduceMul, Nat.reduceSub, ↓reduceIte, eq_self, hso]))
  obtain ⟨h1, hH⟩ : ∃ h1, h1 = (((h.newCells 26 [s]).newCells 35 [.int .u64 (.ofNat r.1), .int .u64 (.ofNat r.2)]).newCells 26 [.nilslice]) := ⟨_, rfl⟩
  have x1 : h1.nx = h.nx + 3 := by rw [hH]; rfl
  have o1 : Only h h1 [] := by rw [hH]; exact (((Only.refl _ _).new _ _).new _ _).new _ _
  have c0 : cellAt h1 h.nx 0 = some s := by rw [hH]; simp only [B, xB, F, Nat.reduceLT, Nat.reduceLeDiff, Nat.reduceEqDiff, Nat.reduceAdd, Nat.reduceMul, Nat.reduceSub, ↓reduceIte, eq_self]
  have r0 : cellAt h1 (h.nx + 1) 0 = some (.int .u64 (.ofNat r.1)) := by rw [hH]; simp only [B, xB, F, Nat.reduceLT, Nat.reduceLeDiff, Nat.reduceEqDiff, Nat.reduceAdd, Nat.reduceMul, Nat.reduceSub, ↓reduceIte, eq_self]
  have r1 : cellAt h1 (h.nx + 1) 1 = some (.int .u64 (.ofNat r.2)) := by rw [hH]; simp only [B, xB, F, Nat.reduceLT, Nat.reduceLeDiff, Nat.reduceEqDiff, Nat.reduceAdd, Nat.reduceMul, Nat.reduceSub, ↓reduceIte, eq_self]
  have z0 : cellAt h1 (h.nx + 2) 0 = some .nilslice := by rw [hH]; simp only [B, xB, F, Nat.reduceLT, Nat.reduceLeDiff, Nat.reduceEqDiff, Nat.reduceAdd, Nat.reduceMul, Nat.reduceSub, ↓reduceIte, eq_self]
  have w0 : wrAt h1 (h.nx + 2) = true := by rw [hH]; simp only [B, xB, F, Nat.reduceLT, Nat.reduceLeDiff, Nat.reduceEqDiff, Nat.reduceAdd, Nat.reduceMul, Nat.reduceSub, ↓reduceIte, eq_self]
  rw [← hH]
  refine ((fitsC h1 _ _ r (hg0.at.keep o1) (hz.le (by omega))).call P).mono P ?_
  rintro v h2 ⟨rfl, o2⟩
  have oo : Only h h2 [] := o1.trans o2 (fun _ h => h) (fun _ h => by cases h)
  have x2 := o2.1
  have c0 : cellAt h2 h.nx 0 = some s := by rw [o2.cell (by omega) (by simp)]; exact c0
  have r0 : cellAt h2 (h.nx + 1) 0 = some (.int .u64 (.ofNat r.1)) := by rw [o2.cell (by omega) (by simp)]; exact r0
  have r1 : cellAt h2 (h.nx + 1) 1 = some (.int .u64 (.ofNat r.2)) := by rw [o2.cell (by omega) (by simp)]; exact r1
  have z0 : cellAt h2 (h.nx + 2) 0 = some .nilslice := by rw [o2.cell (by omega) (by simp)]; exact z0
  have w0 : wrAt h2 (h.nx + 2) = true := by rw [o2.wr (by omega) (by simp)]; exact w0
  have hg2 : GensP (offP p h.nx h2.nx) h2 (.agg [s]) (X.map (·.1)) := (hg0.mono fun b hb q => ⟨q, .inl hb⟩).keep0 oo
  have ho2 : ∀ v, Only h2 (h2.sts (h.nx + 2) 0 [v]) [h.nx + 2] := fun v => (Only.refl _ _).sts (.inl (by simp))
  have hoff : ∀ c, c ∈ [h.nx + 2] → ¬ offP p h.nx h2.nx c := fun c hc q => by rw [List.mem_singleton] at hc; subst hc; have := q.2; omega
  unfold PostE tombP tombE errV
  cases hf : fitsB (X.map (·.1)) r with
  | false =>
    repeat' (first
      | ((with_reducible show codeW _ _ _ _ (codeI _ _) _ _ _ _); first | (apply st_seq; exact rfl) | (refine st_reg ?_ rfl rfl ?_; exact rfl; (conv => arg 4; whnf); (conv => arg 3; whnf)) | (refine st_dw ?_ rfl rfl ?_ ?_; exact rfl; kernel_rfl; (conv => arg 5; whnf); (conv => arg 3; whnf)) | (refine st_cond ?_ rfl ?_; exact rfl; (conv => arg 1; arg 2; whnf)) | (refine st_block ?_ rfl ?_; exact rfl; (conv => arg 9; arg 1; whnf)) | (apply st_skip; exact rfl) | (refine st_exit ?_ rfl ?_; exact rfl; (conv in exitId _ => whnf)) | (apply st_ret; exact rfl))
      | ((with_reducible refine retW_intro rfl ?_); (conv => arg 2; whnf))
      | ((with_reducible refine ifB_split (fun hb => ?_) (fun hb => ?_)) <;> (try rw [Bool.not_true] at hb) <;> (try rw [Bool.not_false] at hb) <;> (try simp only [hb]))
      | ((with_reducible refine gW_split (fun hb => ?_) (fun hb => ?_)) <;> (try rw [Bool.not_true] at hb) <;> (try rw [Bool.not_false] at hb) <;> (try simp only [hb]))
      | ((with_reducible refine gX_split (fun hb => ?_) (fun hb => ?_)) <;> (try rw [Bool.not_true] at hb) <;> (try rw [Bool.not_false] at hb) <;> (try simp only [hb]))
      | ((with_reducible show drawI _ _ _ _ _ _ _ _ _); first | (apply kI_rd; exact rfl) | (apply kI_rg; exact rfl; exact rfl) | (apply kI_cv; exact rfl; kernel_rfl) | (apply kI_al; exact rfl; exact rfl) | (apply kI_ex; exact rfl; kernel_rfl; exact rfl) | (apply kI_eg; exact rfl; kernel_rfl; exact rfl) | (apply kI_nl))
      | ((with_reducible show eOk _ _ _ _ _ _); first | (exact eok_nil) | (apply ke_rd; exact rfl) | (apply ke_rg; exact rfl; exact rfl) | (apply ke_cv; exact rfl; kernel_rfl) | (apply ke_al; exact rfl; exact rfl))
      | ((with_reducible apply freshIs_new); kernel_rfl)
      | (simp only [B, xB, F, Nat.reduceLT, Nat.reduceLeDiff, Nat.reduceEqDiff, Nat.reduceAdd, Nat.reduceMul, Nat.reduceSub, ↓reduceIte, eq_self, c0, z0, put_sts, w0, cellAt_sts w0, hso]))
    exact ⟨oo.sts (.inr (by omega)), _, rfl, (hg2.keep (ho2 _) hoff).mono fun b _ q => q.1⟩
  | true =>
    repeat' (first
      | ((with_reducible show codeW _ _ _ _ (codeI _ _) _ _ _ _); first | (apply st_seq; exact rfl) | (refine st_reg ?_ rfl rfl ?_; exact rfl; (conv => arg 4; whnf); (conv => arg 3; whnf)) | (refine st_dw ?_ rfl rfl ?_ ?_; exact rfl; kernel_rfl; (conv => arg 5; whnf); (conv => arg 3; whnf)) | (refine st_cond ?_ rfl ?_; exact rfl; (conv => arg 1; arg 2; whnf)) | (refine st_block ?_ rfl ?_; exact rfl; (conv => arg 9; arg 1; whnf)) | (apply st_skip; exact rfl) | (refine st_exit ?_ rfl ?_; exact rfl; (conv in exitId _ => whnf)) | (apply st_ret; exact rfl))
      | ((with_reducible refine retW_intro rfl ?_); (conv => arg 2; whnf))
      | ((with_reducible refine ifB_split (fun hb => ?_) (fun hb => ?_)) <;> (try rw [Bool.not_true] at hb) <;> (try rw [Bool.not_false] at hb) <;> (try simp only [hb]))
      | ((with_reducible refine gW_split (fun hb => ?_) (fun hb => ?_)) <;> (try rw [Bool.not_true] at hb) <;> (try rw [Bool.not_false] at hb) <;> (try simp only [hb]))
      | ((with_reducible refine gX_split (fun hb => ?_) (fun hb => ?_)) <;> (try rw [Bool.not_true] at hb) <;> (try rw [Bool.not_false] at hb) <;> (try simp only [hb]))
      | ((with_reducible show drawI _ _ _ _ _ _ _ _ _); first | (apply kI_rd; exact rfl) | (apply kI_rg; exact rfl; exact rfl) | (apply kI_cv; exact rfl; kernel_rfl) | (apply kI_al; exact rfl; exact rfl) | (apply kI_ex; exact rfl; kernel_rfl; exact rfl) | (apply kI_eg; exact rfl; kernel_rfl; exact rfl) | (apply kI_nl))
      | ((with_reducible show eOk _ _ _ _ _ _); first | (exact eok_nil) | (apply ke_rd; exact rfl) | (apply ke_rg; exact rfl; exact rfl) | (apply ke_cv; exact rfl; kernel_rfl) | (apply ke_al; exact rfl; exact rfl))
      | ((with_reducible apply freshIs_new); kernel_rfl)
      | (simp only [B, xB, F, Nat.reduceLT, Nat.reduceLeDiff, Nat.reduceEqDiff, Nat.reduceAdd, Nat.reduceMul, Nat.reduceSub, ↓reduceIte, eq_self, c0]))
    refine ((openC h2 _ _ hg2.at (hz.le (by omega))).call P).mono P ?_
    rintro v h3 ⟨rfl, o3⟩
    have x3 := o3.1
    have oo3 : Only h h3 [] := oo.trans o3 (fun _ h => h) (fun _ h => by cases h)
    have c0 : cellAt h3 h.nx 0 = some s := by rw [o3.cell (by omega) (by simp)]; exact c0
    have r0 : cellAt h3 (h.nx + 1) 0 = some (.int .u64 (.ofNat r.1)) := by rw [o3.cell (by omega) (by simp)]; exact r0
    have r1 : cellAt h3 (h.nx + 1) 1 = some (.int .u64 (.ofNat r.2)) := by rw [o3.cell (by omega) (by simp)]; exact r1
    have z0 : cellAt h3 (h.nx + 2) 0 = some .nilslice := by rw [o3.cell (by omega) (by simp)]; exact z0
    have w0 : wrAt h3 (h.nx + 2) = true := by rw [o3.wr (by omega) (by simp)]; exact w0
    have ho3 : ∀ v, Only h3 (h3.sts (h.nx + 2) 0 [v]) [h.nx + 2] := fun v => (Only.refl _ _).sts (.inl (by simp))
    cases hop : opn (X.map (·.1)) with
    | false =>
      repeat' (first
        | ((with_reducible show codeW _ _ _ _ (codeI _ _) _ _ _ _); first | (apply st_seq; exact rfl) | (refine st_reg ?_ rfl rfl ?_; exact rfl; (conv => arg 4; whnf); (conv => arg 3; whnf)) | (refine st_dw ?_ rfl rfl ?_ ?_; exact rfl; kernel_rfl; (conv => arg 5; whnf); (conv => arg 3; whnf)) | (refine st_cond ?_ rfl ?_; exact rfl; (conv => arg 1; arg 2; whnf)) | (refine st_block ?_ rfl ?_; exact rfl; (conv => arg 9; arg 1; whnf)) | (apply st_skip; exact rfl) | (refine st_exit ?_ rfl ?_; exact rfl; (conv in exitId _ => whnf)) | (apply st_ret; exact rfl))
        | ((with_reducible refine retW_intro rfl ?_); (conv => arg 2; whnf))
        | ((with_reducible refine ifB_split (fun hb => ?_) (fun hb => ?_)) <;> (try rw [Bool.not_true] at hb) <;> (try rw [Bool.not_false] at hb) <;> (try simp only [hb]))
        | ((with_reducible refine gW_split (fun hb => ?_) (fun hb => ?_)) <;> (try rw [Bool.not_true] at hb) <;> (try rw [Bool.not_false] at hb) <;> (try simp only [hb]))
        | ((with_reducible refine gX_split (fun hb => ?_) (fun hb => ?_)) <;> (try rw [Bool.not_true] at hb) <;> (try rw [Bool.not_false] at hb) <;> (try simp only [hb]))
        | ((with_reducible show drawI _ _ _ _ _ _ _ _ _); first | (apply kI_rd; exact rfl) | (apply kI_rg; exact rfl; exact rfl) | (apply kI_cv; exact rfl; kernel_rfl) | (apply kI_al; exact rfl; exact rfl) | (apply kI_ex; exact rfl; kernel_rfl; exact rfl) | (apply kI_eg; exact rfl; kernel_rfl; exact rfl) | (apply kI_nl))
        | ((with_reducible show eOk _ _ _ _ _ _); first | (exact eok_nil) | (apply ke_rd; exact rfl) | (apply ke_rg; exact rfl; exact rfl) | (apply ke_cv; exact rfl; kernel_rfl) | (apply ke_al; exact rfl; exact rfl))
        | ((with_reducible apply freshIs_new); kernel_rfl)
        | (simp only [B, xB, F, Nat.reduceLT, Nat.reduceLeDiff, Nat.reduceEqDiff, Nat.reduceAdd, Nat.reduceMul, Nat.reduceSub, ↓reduceIte, eq_self, c0, z0, put_sts, w0, cellAt_sts w0, hso]))
      exact ⟨oo3.sts (.inr (by omega)), _, rfl, ((hg2.keep0 o3).keep (ho3 _) hoff).mono fun b _ q => q.1⟩
    | true =>
      rcases gs_last X with hX0 | ⟨Y, x, hX0⟩
      · rw [hX0] at hop; cases hop
      repeat' (first
        | ((with_reducible show codeW _ _ _ _ (codeI _ _) _ _ _ _); first | (apply st_seq; exact rfl) | (refine st_reg ?_ rfl rfl ?_; exact rfl; (conv => arg 4; whnf); (conv => arg 3; whnf)) | (refine st_dw ?_ rfl rfl ?_ ?_; exact rfl; kernel_rfl; (conv => arg 5; whnf); (conv => arg 3; whnf)) | (refine st_cond ?_ rfl ?_; exact rfl; (conv => arg 1; arg 2; whnf)) | (refine st_block ?_ rfl ?_; exact rfl; (conv => arg 9; arg 1; whnf)) | (apply st_skip; exact rfl) | (refine st_exit ?_ rfl ?_; exact rfl; (conv in exitId _ => whnf)) | (apply st_ret; exact rfl))
        | ((with_reducible refine retW_intro rfl ?_); (conv => arg 2; whnf))
        | ((with_reducible refine ifB_split (fun hb => ?_) (fun hb => ?_)) <;> (try rw [Bool.not_true] at hb) <;> (try rw [Bool.not_false] at hb) <;> (try simp only [hb]))
        | ((with_reducible refine gW_split (fun hb => ?_) (fun hb => ?_)) <;> (try rw [Bool.not_true] at hb) <;> (try rw [Bool.not_false] at hb) <;> (try simp only [hb]))
        | ((with_reducible refine gX_split (fun hb => ?_) (fun hb => ?_)) <;> (try rw [Bool.not_true] at hb) <;> (try rw [Bool.not_false] at hb) <;> (try simp only [hb]))
        | ((with_reducible show drawI _ _ _ _ _ _ _ _ _); first | (apply kI_rd; exact rfl) | (apply kI_rg; exact rfl; exact rfl) | (apply kI_cv; exact rfl; kernel_rfl) | (apply kI_al; exact rfl; exact rfl) | (apply kI_ex; exact rfl; kernel_rfl; exact rfl) | (apply kI_eg; exact rfl; kernel_rfl; exact rfl) | (apply kI_nl))
        | ((with_reducible show eOk _ _ _ _ _ _); first | (exact eok_nil) | (apply ke_rd; exact rfl) | (apply ke_rg; exact rfl; exact rfl) | (apply ke_cv; exact rfl; kernel_rfl) | (apply ke_al; exact rfl; exact rfl))
        | ((with_reducible apply freshIs_new); kernel_rfl)
        | (simp only [B, xB, F, Nat.reduceLT, Nat.reduceLeDiff, Nat.reduceEqDiff, Nat.reduceAdd, Nat.reduceMul, Nat.reduceSub, ↓reduceIte, eq_self, c0]))
      refine ((copiedC h3 s X (hh.keep oo3) hn (hz.le (by omega))).call P).mono P ?_
      rintro v h4 ⟨b, X', rfl, bb, wb, room, has, o4, hnil, hlast⟩
      obtain ⟨bp, hX', bp1, bp2, bp3, wbp, roomp⟩ := hlast Y x hX0
      have x4 := o4.1
      have hXl : X.length = Y.length + 1 := by rw [hX0]; simp
      have hXl' : X'.length = X.length := by rw [hX', hXl]; simp
      have e1 : wrapF .i64 (Int.ofNat X.length - Int.ofNat 1) = Int.ofNat (X.length - 1) := i64_sub (by omega) (by omega)
      have lt1 : (X.length - 1 < X.length) = True := by simp; omega
      have hx' : X'[X.length - 1]? = some (x.1, .slice bp 0 x.1.puts.length (.exact (x.1.puts.length + 1))) := by rw [hX', hXl]; simp
      have hs4 := has.1
      rw [hXl'] at hs4
      obtain ⟨-, -, -, a3, a4, a5⟩ := gC_at hs4 hx'
      simp only [Nat.zero_add] at a3 a4 a5
      have r0 : cellAt h4 (h.nx + 1) 0 = some (.int .u64 (.ofNat r.1)) := by rw [o4.cell (by omega) (by simp)]; exact r0
      have r1 : cellAt h4 (h.nx + 1) 1 = some (.int .u64 (.ofNat r.2)) := by rw [o4.cell (by omega) (by simp)]; exact r1
      have z0 : cellAt h4 (h.nx + 2) 0 = some .nilslice := by rw [o4.cell (by omega) (by simp)]; exact z0
      have w0 : wrAt h4 (h.nx + 2) = true := by rw [o4.wr (by omega) (by simp)]; exact w0
      have n1 : (h.nx + 1 = h4.nx) = False := by simp; omega
      have n2 : (h.nx + 2 = h4.nx) = False := by simp; omega
      have n3 : (b = h4.nx) = False := by simp; omega
      have n4 : (h4.nx = b) = False := by simp; omega
      have n5 : (h.nx + 1 = b) = False := by simp; omega
      have n6 : (h.nx + 2 = b) = False := by simp; omega
      have wb5 : ∀ l, wrAt ((h4.newCells 26 [.nilslice]).sts h4.nx 0 l) b = true := fun l => by rw [wrAt_sts, wrAt_new, if_neg (by omega)]; exact wb
      have wb6 : ∀ l l' o, wrAt (((h4.newCells 26 [.nilslice]).sts h4.nx 0 l).sts b o l') b = true := fun l l' o => by rw [wrAt_sts]; exact wb5 l
      repeat' (first
        | ((with_reducible show codeW _ _ _ _ (codeI _ _) _ _ _ _); first | (apply st_seq; exact rfl) | (refine st_reg ?_ rfl rfl ?_; exact rfl; (conv => arg 4; whnf); (conv => arg 3; whnf)) | (refine st_dw ?_ rfl rfl ?_ ?_; exact rfl; kernel_rfl; (conv => arg 5; whnf); (conv => arg 3; whnf)) | (refine st_cond ?_ rfl ?_; exact rfl; (conv => arg 1; arg 2; whnf)) | (refine st_block ?_ rfl ?_; exact rfl; (conv => arg 9; arg 1; whnf)) | (apply st_skip; exact rfl) | (refine st_exit ?_ rfl ?_; exact rfl; (conv in exitId _ => whnf)) | (apply st_ret; exact rfl))
        | ((with_reducible refine retW_intro rfl ?_); (conv => arg 2; whnf))
        | ((with_reducible refine ifB_split (fun hb => ?_) (fun hb => ?_)) <;> (try rw [Bool.not_true] at hb) <;> (try rw [Bool.not_false] at hb) <;> (try simp only [hb]))
        | ((with_reducible refine gW_split (fun hb => ?_) (fun hb => ?_)) <;> (try rw [Bool.not_true] at hb) <;> (try rw [Bool.not_false] at hb) <;> (try simp only [hb]))
        | ((with_reducible refine gX_split (fun hb => ?_) (fun hb => ?_)) <;> (try rw [Bool.not_true] at hb) <;> (try rw [Bool.not_false] at hb) <;> (try simp only [hb]))
        | ((with_reducible show drawI _ _ _ _ _ _ _ _ _); first | (apply kI_rd; exact rfl) | (apply kI_rg; exact rfl; exact rfl) | (apply kI_cv; exact rfl; kernel_rfl) | (apply kI_al; exact rfl; exact rfl) | (apply kI_ex; exact rfl; kernel_rfl; exact rfl) | (apply kI_eg; exact rfl; kernel_rfl; exact rfl) | (apply kI_nl))
        | ((with_reducible show eOk _ _ _ _ _ _); first | (exact eok_nil) | (apply ke_rd; exact rfl) | (apply ke_rg; exact rfl; exact rfl) | (apply ke_cv; exact rfl; kernel_rfl) | (apply ke_al; exact rfl; exact rfl))
        | ((with_reducible apply freshIs_new); kernel_rfl)
        | (simp only [B, xB, F, Nat.reduceLT, Nat.reduceLeDiff, Nat.reduceEqDiff, Nat.reduceAdd, Nat.reduceMul, Nat.reduceSub, ↓reduceIte, eq_self, Nat.lt_irrefl, e1, lt1, a3, a4, a5, r0, r1, z0, n1, n2, n3, n4, n5, n6, put_sts, wb, w0, cellAt_sts (wb5 _), cellAt_sts (wb6 _ _ _), wrAt_sts]))
      have hN : (X.length - 1) * 6 = Y.length * 6 := by rw [hXl]; rfl
      rw [hN]
      obtain ⟨pb, hpb⟩ : ∃ pb, pb = AV.slice bp 0 x.1.puts.length (.exact (x.1.puts.length + 1)) := ⟨_, rfl⟩
      obtain ⟨hf5, h5e⟩ : ∃ h5, h5 = ((((h4.newCells 26 [.nilslice]).sts h4.nx 0 [.slice b 0 X.length (.exact (X.length + 1))]).sts b (Y.length * 6 + 3) [.int .u64 (.ofNat r.1), .int .u64 (.ofNat r.2)]).sts b (Y.length * 6 + 5) [.bool true]).sts (h.nx + 2) 0 [.slice b 0 X.length (.exact (X.length + 1))] := ⟨_, rfl⟩
      rw [← h5e]
      have x5 : hf5.nx = h4.nx + 1 := by rw [h5e]; simp only [nx_sts, nx_new]
      have g5 : ∀ c, c < h4.nx → c ≠ b → c ≠ h.nx + 2 → hf5.t.get c = h4.t.get c := fun c hc k1 k2 => by
        rw [h5e, get_sts _ _ _ _ k2, get_sts _ _ _ _ k1, get_sts _ _ _ _ k1, get_sts _ _ _ _ (by omega), get_new _ _ _ (by omega)]
      have cb : ∀ j, cellAt hf5 b j = if j = Y.length * 6 + 5 then some (.bool true) else if j = Y.length * 6 + 3 then some (.int .u64 (.ofNat r.1)) else if j = Y.length * 6 + 4 then some (.int .u64 (.ofNat r.2)) else cellAt h4 b j := fun j => by
        rw [h5e, cellAt_of_get (get_sts _ _ _ _ (by omega)), cellAt_sts (wb6 _ _ _)]
        by_cases q : j = Y.length * 6 + 5
        · subst q; rw [if_pos ⟨rfl, Nat.le_refl _, by simp⟩, if_pos rfl, Nat.sub_self]; rfl
        · rw [if_neg (by simp only [List.length_cons, List.length_nil]; omega), if_neg q, cellAt_sts (wb5 _)]
          by_cases q3 : j = Y.length * 6 + 3
          · subst q3; rw [if_pos ⟨rfl, Nat.le_refl _, by simp⟩, if_pos rfl, Nat.sub_self]; rfl
          · rw [if_neg q3]
            by_cases q4 : j = Y.length * 6 + 4
            · subst q4; rw [if_pos ⟨rfl, by omega, by simp⟩, if_pos rfl, show Y.length * 6 + 4 - (Y.length * 6 + 3) = 1 by omega]; rfl
            · rw [if_neg (by simp only [List.length_cons, List.length_nil]; omega), if_neg q4, cellAt_of_get (get_sts _ _ _ _ (by omega)), cellAt_of_get (get_new _ _ _ (by omega))]
      have o5 : Only h hf5 [] := ⟨by omega, fun c hc _ => by rw [g5 c (by omega) (by omega) (by omega), o4.2 c (by omega) (by simp)]; exact oo3.2 c hc (by simp)⟩
      have hend : x.1.ended = false := by
        rw [hX0] at hop; simp only [opn, List.map_append, List.map_cons, List.map_nil, List.getLast?_append, List.getLast?_singleton, Option.some_or] at hop
        simpa using hop
      have hput : tombL (X.map (·.1)) r = (Y ++ [({ x.1 with en := r, ended := true }, pb)]).map (fun z : Gn × AV => z.1) := by
        unfold tombL
        rw [hX0]
        simp only [List.map_append, List.map_cons, List.map_nil, List.getLast?_append, List.getLast?_singleton, Option.some_or, List.dropLast_concat]
      have hlen2 : (Y ++ [(({ x.1 with en := r, ended := true } : Gn), pb)]).length = X.length := by rw [hXl]; simp
      refine ⟨o5, _, rfl, .slice b 0 X.length (.exact (X.length + 1)), Y ++ [({ x.1 with en := r, ended := true }, pb)], rfl, hput.symm, ⟨?_, fun y hy => ?_⟩, ⟨fun q => by simp at q, fun y z hy q => ?_⟩, fun c q => ?_, fun y hy c q => ?_⟩
      · rw [hlen2]
        refine .cell _ _ _ _ _ (by omega) (fun j hj => ?_)
        rw [gCs_len, hlen2] at hj
        have hcell4 : cellAt h4 b j = (X'.flatMap gC)[j]? := by
          cases hs4 with
          | cell _ _ _ _ _ _ hc => have := hc j (by rw [gCs_len, hXl']; exact hj); rwa [Nat.zero_add] at this
        rw [Nat.zero_add, cb, flat_at]
        rw [hX', flat_at] at hcell4
        by_cases q : j < Y.length * 6
        · rw [if_neg (by omega), if_neg (by omega), if_neg (by omega), if_pos q, hcell4, if_pos q]
        · rw [if_neg q] at hcell4 ⊢
          obtain ⟨k, rfl⟩ : ∃ k, j = Y.length * 6 + k := ⟨j - Y.length * 6, by omega⟩
          rw [Nat.add_sub_cancel_left] at hcell4 ⊢
          match k with
          | 0 => rw [if_neg (by omega), if_neg (by omega), if_neg (by omega), hcell4]; rfl
          | 1 => rw [if_neg (by omega), if_neg (by omega), if_neg (by omega), hcell4]; rfl
          | 2 => rw [if_neg (by omega), if_neg (by omega), if_neg (by omega), hcell4, hpb]; rfl
          | 3 => rw [if_neg (by omega), if_pos rfl]; rfl
          | 4 => rw [if_neg (by omega), if_neg (by omega), if_pos rfl]; rfl
          | 5 => rw [if_pos rfl]; rfl
          | k + 6 => rw [hXl] at hj; omega
      · rcases List.mem_append.1 hy with hy | hy
        · exact (hh.2 y (by rw [hX0]; exact List.mem_append_left _ hy)).only o5 (fun _ _ => by simp)
        · rw [List.mem_singleton] at hy
          subst hy
          have hsl2 := has.2 (x.1, .slice bp 0 x.1.puts.length (.exact (x.1.puts.length + 1))) (by rw [hX']; simp)
          rw [hpb]
          refine SliceAt.only (S := [b, h.nx + 2]) ⟨by omega, fun c hc hs => ?_⟩ hsl2 (fun c hc => ?_)
          · simp only [List.mem_cons, List.mem_nil_iff, or_false, not_or] at hs
            exact g5 c hc hs.1 hs.2
          · cases hc
            simp only [List.mem_cons, List.mem_nil_iff, or_false, not_or]; omega
      · obtain ⟨_, q2⟩ := List.append_inj' hy rfl
        simp only [List.cons.injEq, and_true] at q2
        rw [← q2] at q
        exact absurd q (hq (Y.map (·.1)) x.1 (by rw [hX0]; simp) hend)
      · cases q; exact hp _ (by omega)
      · rcases List.mem_append.1 hy with hy | hy
        · exact hbk.2 y (by rw [hX0]; exact List.mem_append_left _ hy) c q
        · rw [List.mem_singleton] at hy
          subst hy
          subst hpb
          cases q; exact hp _ (by omega)
end
end Go.Proofs.Ytlkngpckibidlaa.W

namespace Go.Proofs.Ytlkngpckibidlaa.W
open Go Go.AX
noncomputable section
set_option maxRecDepth 100000
theorem kcell {h h' : H} {S : List Nat} {b i : Nat} {v : Option AV} (x : cellAt h b i = v) (ho : Only h h' S) (hb : b < h.nx) (hs : b ∉ S) : cellAt h' b i = v := Eq.trans (ho.cell hb hs i) x
theorem kwr {h h' : H} {S : List Nat} {b : Nat} {v : Bool} (x : wrAt h b = v) (ho : Only h h' S) (hb : b < h.nx) (hs : b ∉ S) : wrAt h' b = v := (ho.wr hb hs).trans x
theorem emptyC (h : H) (v : AV) (L : List Gn) (hg : GensAt h v L) (hz : Sz 1000 L) : PushC P (.enter 24 [v] h) (Says h (.bool L.isEmpty)) := by
  obtain ⟨s, X, rfl, rfl, hh, -⟩ := hg
  have hlen := hh.1.len (P := P) u24
  have hso := SliceAt.one hh.1
  refine pushC_of_codeW (fn := Try.f24) (c := bodyC Try.f24) Try.func24 rfl ?_
  show codeW P 24 7 none _ _ _ _ _
  refine codeW_root ?_
  repeat' (first
    | ((with_reducible show codeW _ _ _ _ (codeI _ _) _ _ _ _); first | (apply st_seq; exact rfl) | (refine st_reg ?_ rfl rfl ?_; exact rfl; (conv => arg 4; whnf); (conv => arg 3; whnf)) | (refine st_dw ?_ rfl rfl ?_ ?_; exact rfl; kernel_rfl; (conv => arg 5; whnf); (conv => arg 3; whnf)) | (refine st_cond ?_ rfl ?_; exact rfl; (conv => arg 1; arg 2; whnf)) | (refine st_block ?_ rfl ?_; exact rfl; (conv => arg 9; arg 1; whnf)) | (apply st_skip; exact rfl) | (refine st_exit ?_ rfl ?_; exact rfl; (conv in exitId _ => whnf)) | (apply st_ret; exact rfl))
    | ((with_reducible refine retW_intro rfl ?_); (conv => arg 2; whnf))
    | ((with_reducible refine ifB_split (fun hb => ?_) (fun hb => ?_)) <;> (try rw [Bool.not_true] at hb) <;> (try rw [Bool.not_false] at hb) <;> (try simp only [hb]))
    | ((with_reducible refine gW_split (fun hb => ?_) (fun hb => ?_)) <;> (try rw [Bool.not_true] at hb) <;> (try rw [Bool.not_false] at hb) <;> (try simp only [hb]))
    | ((with_reducible refine gX_split (fun hb => ?_) (fun hb => ?_)) <;> (try rw [Bool.not_true] at hb) <;> (try rw [Bool.not_false] at hb) <;> (try simp only [hb]))
    | ((with_reducible show drawI _ _ _ _ _ _ _ _ _); first | (apply kI_rd; exact rfl) | (apply kI_rg; exact rfl; exact rfl) | (apply kI_cv; exact rfl; kernel_rfl) | (apply kI_al; exact rfl; exact rfl) | (apply kI_ex; exact rfl; kernel_rfl; exact rfl) | (apply kI_eg; exact rfl; kernel_rfl; exact rfl) | (apply kI_nl))
    | ((with_reducible show eOk _ _ _ _ _ _); first | (exact eok_nil) | (apply ke_rd; exact rfl) | (apply ke_rg; exact rfl; exact rfl) | (apply ke_cv; exact rfl; kernel_rfl) | (apply ke_al; exact rfl; exact rfl))
    | ((with_reducible apply freshIs_new); kernel_rfl)
    | (simp only [B, xB, F, Nat.reduceLT, Nat.reduceLeDiff, Nat.reduceEqDiff, Nat.reduceAdd, Nat.reduceMul, Nat.reduceSub, ↓reduceIte, eq_self, hlen, hso]))
  refine ⟨?_, (Only.refl _ _).new _ _⟩
  cases X <;> simp
theorem revC (h : H) (m s : Nat) : PushC P (.enter 19 [n64 m, n64 s] h) (Says h (rvA (m, s))) := by
  unfold n64
  refine pushC_of_codeW (fn := Try.f19) (c := bodyC Try.f19) Try.func19 rfl ?_
  show codeW P 19 8 none _ _ _ _ _
  refine codeW_root ?_
  repeat' (first
    | ((with_reducible show codeW _ _ _ _ (codeI _ _) _ _ _ _); first | (apply st_seq; exact rfl) | (refine st_reg ?_ rfl rfl ?_; exact rfl; (conv => arg 4; whnf); (conv => arg 3; whnf)) | (refine st_dw ?_ rfl rfl ?_ ?_; exact rfl; kernel_rfl; (conv => arg 5; whnf); (conv => arg 3; whnf)) | (refine st_cond ?_ rfl ?_; exact rfl; (conv => arg 1; arg 2; whnf)) | (refine st_block ?_ rfl ?_; exact rfl; (conv => arg 9; arg 1; whnf)) | (apply st_skip; exact rfl) | (refine st_exit ?_ rfl ?_; exact rfl; (conv in exitId _ => whnf)) | (apply st_ret; exact rfl))
    | ((with_reducible refine retW_intro rfl ?_); (conv => arg 2; whnf))
    | ((with_reducible refine ifB_split (fun hb => ?_) (fun hb => ?_)) <;> (try rw [Bool.not_true] at hb) <;> (try rw [Bool.not_false] at hb) <;> (try simp only [hb]))
    | ((with_reducible refine gW_split (fun hb => ?_) (fun hb => ?_)) <;> (try rw [Bool.not_true] at hb) <;> (try rw [Bool.not_false] at hb) <;> (try simp only [hb]))
    | ((with_reducible refine gX_split (fun hb => ?_) (fun hb => ?_)) <;> (try rw [Bool.not_true] at hb) <;> (try rw [Bool.not_false] at hb) <;> (try simp only [hb]))
    | ((with_reducible show drawI _ _ _ _ _ _ _ _ _); first | (apply kI_rd; exact rfl) | (apply kI_rg; exact rfl; exact rfl) | (apply kI_cv; exact rfl; kernel_rfl) | (apply kI_al; exact rfl; exact rfl) | (apply kI_ex; exact rfl; kernel_rfl; exact rfl) | (apply kI_eg; exact rfl; kernel_rfl; exact rfl) | (apply kI_nl))
    | ((with_reducible show eOk _ _ _ _ _ _); first | (exact eok_nil) | (apply ke_rd; exact rfl) | (apply ke_rg; exact rfl; exact rfl) | (apply ke_cv; exact rfl; kernel_rfl) | (apply ke_al; exact rfl; exact rfl))
    | ((with_reducible apply freshIs_new); kernel_rfl)
    | (simp only [B, xB, F, Nat.reduceLT, Nat.reduceLeDiff, Nat.reduceEqDiff, Nat.reduceAdd, Nat.reduceMul, Nat.reduceSub, ↓reduceIte, eq_self]))
  exact ⟨rfl, ((Only.refl _ _).new _ _).sts (.inr (Nat.le_refl _))⟩
def restB (L : List Gn) (r : Rv) (made nth : Nat) : Bool :=
  fitsB L r && !decide (made = 0) && !decide (r.1 < made) && !decide (nth = 0) &&
  (match L.getLast? with
   | none => true
   | some g => if g.ended then decide (g.en.1 < made) else decide (made = g.made) && decide (nth = (g.first + g.puts.length) % M64))
def restP (L : List Gn) (r : Rv) (made nth : Nat) : List Gn := if restB L r made nth then putL L r made nth else L
def restE (L : List Gn) (r : Rv) (made nth : Nat) : Nat := if restB L r made nth then 0 else 2
def keepR (is : Bool) (mod : Rv) (m : Nat) (r : Rv) : Bool := decide (m < r.1) || (is && decide (r = mod))
def leftPuts (is : Bool) (mod : Rv) (m : Nat) (g : Gn) (j : Nat) : List Rv := (g.puts.take j).filter (keepR is mod m)
def leftFirst (is : Bool) (mod : Rv) (m : Nat) (g : Gn) (j : Nat) : Nat := if leftPuts is mod m g j = [] then g.first else (g.first + g.puts.findIdx (keepR is mod m)) % M64
def compG (is : Bool) (mod : Rv) (m : Nat) (g : Gn) : Option Gn :=
  if g.ended && decide (g.en.1 ≤ m) then none
  else if decide (g.puts.filter (keepR is mod m) ≠ []) || g.ended then some { g with first := leftFirst is mod m g g.puts.length, puts := g.puts.filter (keepR is mod m) }
  else none
def compL (L : List Gn) (m : Nat) : List Gn := L.filterMap (compG (atB L m) (atK L m).rev m)
def compK (L : List Gn) (m : Nat) : List Rv := if atB L m then [(atK L m).rev] else []
theorem RestC (p : Nat → Prop) (h : H) (v : AV) (L : List Gn) (r : Rv) (made nth : Nat) (hp : ∀ b, h.nx ≤ b → p b) (hg : GensP p h v L) (hz : Sz 900 L) : PushC P (.enter 21 [v, rvA r, n64 made, n64 nth] h) (PostE p h (restP L r made nth) (restE L r made nth)) := by
  have hg0 := hg
  obtain ⟨s, X, rfl, rfl, hh, hn, hbk⟩ := hg
  have hso := SliceAt.one hh.1
  have hXz : X.length ≤ 900 := by have := hz.1; simpa using this
  have e0 : rvA r = .agg [.int .u64 (.ofNat r.1), .int .u64 (.ofNat r.2)] := rfl
  rw [e0]
  unfold n64
  refine pushC_of_codeW (fn := Try.f21) (c := bodyC Try.f21) Try.func21 rfl ?_
  show codeW P 21 79 none _ _ _ _ _
  refine codeW_root ?_
  repeat' (first
    | ((with_reducible show codeW _ _ _ _ (codeI _ _) _ _ _ _); first | (apply st_seq; exact rfl) | (refine st_reg ?_ rfl rfl ?_; exact rfl; (conv => arg 4; whnf); (conv => arg 3; whnf)) | (refine st_dw ?_ rfl rfl ?_ ?_; exact rfl; kernel_rfl; (conv => arg 5; whnf); (conv => arg 3; whnf)) | (refine st_cond ?_ rfl ?_; exact rfl; (conv => arg 1; arg 2; whnf)) | (refine st_block ?_ rfl ?_; exact rfl; (conv => arg 9; arg 1; whnf)) | (apply st_skip; exact rfl) | (refine st_exit ?_ rfl ?_; exact rfl; (conv in exitId _ => whnf)) | (apply st_ret; exact rfl))
    | ((with_reducible refine retW_intro rfl ?_); (conv => arg 2; whnf))
    | ((with_reducible refine ifB_split (fun hb => ?_) (fun hb => ?_)) <;> (try rw [Bool.not_true] at hb) <;> (try rw [Bool.not_false] at hb) <;> (try simp only [hb]))
    | ((with_reducible refine gW_split (fun hb => ?_) (fun hb => ?_)) <;> (try rw [Bool.not_true] at hb) <;> (try rw [Bool.not_false] at hb) <;> (try simp only [hb]))
    | ((with_reducible refine gX_split (fun hb => ?_) (fun hb => ?_)) <;> (try rw [Bool.not_true] at hb) <;> (try rw [Bool.not_false] at hb) <;> (try simp only [hb]))
    | ((with_reducible show drawI _ _ _ _ _ _ _ _ _); first | (apply kI_rd; exact rfl) | (apply kI_rg; exact rfl; exact rfl) | (apply kI_cv; exact rfl; kernel_rfl) | (apply kI_al; exact rfl; exact rfl) | (apply kI_ex; exact rfl; kernel_rfl; exact rfl) | (apply kI_eg; exact rfl; kernel_rfl; exact rfl) | (apply kI_nl))
    | ((with_reducible show eOk _ _ _ _ _ _); first | (exact eok_nil) | (apply ke_rd; exact rfl) | (apply ke_rg; exact rfl; exact rfl) | (apply ke_cv; exact rfl; kernel_rfl) | (apply ke_al; exact rfl; exact rfl))
    | ((with_reducible apply freshIs_new); kernel_rfl)
    | (simp only [B, xB, F, Nat.reduceLT, Nat.reduceLeDiff, Nat.reduceEqDiff, Nat.reduceAdd, Nat.reduceMul, Nat.reduceSub, ↓reduceIte, eq_self, hso]))
  obtain ⟨h1, hH⟩ : ∃ h1, h1 = (((h.newCells 26 [s]).newCells 35 [.int .u64 (.ofNat r.1), .int .u64 (.ofNat r.2)]).newCells 26 [.nilslice]) := ⟨_, rfl⟩
  have x1 : h1.nx = h.nx + 3 := by rw [hH]; rfl
  have o1 : Only h h1 [] := by rw [hH]; exact (((Only.refl _ _).new _ _).new _ _).new _ _
  have c0 : cellAt h1 h.nx 0 = some s := by rw [hH]; simp only [B, xB, F, Nat.reduceLT, Nat.reduceLeDiff, Nat.reduceEqDiff, Nat.reduceAdd, Nat.reduceMul, Nat.reduceSub, ↓reduceIte, eq_self]
  have r0 : cellAt h1 (h.nx + 1) 0 = some (.int .u64 (.ofNat r.1)) := by rw [hH]; simp only [B, xB, F, Nat.reduceLT, Nat.reduceLeDiff, Nat.reduceEqDiff, Nat.reduceAdd, Nat.reduceMul, Nat.reduceSub, ↓reduceIte, eq_self]
  have r1 : cellAt h1 (h.nx + 1) 1 = some (.int .u64 (.ofNat r.2)) := by rw [hH]; simp only [B, xB, F, Nat.reduceLT, Nat.reduceLeDiff, Nat.reduceEqDiff, Nat.reduceAdd, Nat.reduceMul, Nat.reduceSub, ↓reduceIte, eq_self]
  have z0 : cellAt h1 (h.nx + 2) 0 = some .nilslice := by rw [hH]; simp only [B, xB, F, Nat.reduceLT, Nat.reduceLeDiff, Nat.reduceEqDiff, Nat.reduceAdd, Nat.reduceMul, Nat.reduceSub, ↓reduceIte, eq_self]
  have w0 : wrAt h1 (h.nx + 2) = true := by rw [hH]; simp only [B, xB, F, Nat.reduceLT, Nat.reduceLeDiff, Nat.reduceEqDiff, Nat.reduceAdd, Nat.reduceMul, Nat.reduceSub, ↓reduceIte, eq_self]
  rw [← hH]
  refine ((fitsC h1 _ _ r (hg0.at.keep o1) (hz.le (by omega))).call P).mono P ?_
  rintro v h2 ⟨rfl, o2⟩
  have oo : Only h h2 [] := o1.trans o2 (fun _ h => h) (fun _ h => by cases h)
  have x2 := o2.1
  first | replace c0 := kcell c0 o2 (by omega) (by simp) | replace c0 := kwr c0 o2 (by omega) (by simp)
  first | replace r0 := kcell r0 o2 (by omega) (by simp) | replace r0 := kwr r0 o2 (by omega) (by simp)
  first | replace r1 := kcell r1 o2 (by omega) (by simp) | replace r1 := kwr r1 o2 (by omega) (by simp)
  first | replace z0 := kcell z0 o2 (by omega) (by simp) | replace z0 := kwr z0 o2 (by omega) (by simp)
  first | replace w0 := kcell w0 o2 (by omega) (by simp) | replace w0 := kwr w0 o2 (by omega) (by simp)
  have hg2 : GensP (offP p h.nx h2.nx) h2 (.agg [s]) (X.map (·.1)) := (hg0.mono fun b hb q => ⟨q, .inl hb⟩).keep0 oo
  have ho2 : ∀ v, Only h2 (h2.sts (h.nx + 2) 0 [v]) [h.nx + 2] := fun v => (Only.refl _ _).sts (.inl (by simp))
  have hoff : ∀ c, c ∈ [h.nx + 2] → ¬ offP p h.nx h2.nx c := fun c hc q => by rw [List.mem_singleton] at hc; subst hc; have := q.2; omega
  obtain ⟨F, hF⟩ : ∃ F, F = fitsB (X.map (·.1)) r := ⟨_, rfl⟩
  rw [← hF]
  cases F with
  | false =>
    have e1 : restB (X.map (·.1)) r made nth = false := by unfold restB; rw [← hF]; rfl
    unfold PostE restP restE errV
    rw [e1]
    repeat' (first
      | ((with_reducible show codeW _ _ _ _ (codeI _ _) _ _ _ _); first | (apply st_seq; exact rfl) | (refine st_reg ?_ rfl rfl ?_; exact rfl; (conv => arg 4; whnf); (conv => arg 3; whnf)) | (refine st_dw ?_ rfl rfl ?_ ?_; exact rfl; kernel_rfl; (conv => arg 5; whnf); (conv => arg 3; whnf)) | (refine st_cond ?_ rfl ?_; exact rfl; (conv => arg 1; arg 2; whnf)) | (refine st_block ?_ rfl ?_; exact rfl; (conv => arg 9; arg 1; whnf)) | (apply st_skip; exact rfl) | (refine st_exit ?_ rfl ?_; exact rfl; (conv in exitId _ => whnf)) | (apply st_ret; exact rfl))
      | ((with_reducible refine retW_intro rfl ?_); (conv => arg 2; whnf))
      | ((with_reducible refine ifB_split (fun hb => ?_) (fun hb => ?_)) <;> (try rw [Bool.not_true] at hb) <;> (try rw [Bool.not_false] at hb) <;> (try simp only [hb]))
      | ((with_reducible refine gW_split (fun hb => ?_) (fun hb => ?_)) <;> (try rw [Bool.not_true] at hb) <;> (try rw [Bool.not_false] at hb) <;> (try simp only [hb]))
      | ((with_reducible refine gX_split (fun hb => ?_) (fun hb => ?_)) <;> (try rw [Bool.not_true] at hb) <;> (try rw [Bool.not_false] at hb) <;> (try simp only [hb]))
      | ((with_reducible show drawI _ _ _ _ _ _ _ _ _); first | (apply kI_rd; exact rfl) | (apply kI_rg; exact rfl; exact rfl) | (apply kI_cv; exact rfl; kernel_rfl) | (apply kI_al; exact rfl; exact rfl) | (apply kI_ex; exact rfl; kernel_rfl; exact rfl) | (apply kI_eg; exact rfl; kernel_rfl; exact rfl) | (apply kI_nl))
      | ((with_reducible show eOk _ _ _ _ _ _); first | (exact eok_nil) | (apply ke_rd; exact rfl) | (apply ke_rg; exact rfl; exact rfl) | (apply ke_cv; exact rfl; kernel_rfl) | (apply ke_al; exact rfl; exact rfl))
      | ((with_reducible apply freshIs_new); kernel_rfl)
      | (simp only [B, xB, F, Nat.reduceLT, Nat.reduceLeDiff, Nat.reduceEqDiff, Nat.reduceAdd, Nat.reduceMul, Nat.reduceSub, ↓reduceIte, eq_self, c0, z0, put_sts, w0, cellAt_sts w0, hso]))
    exact ⟨oo.sts (.inr (by omega)), _, rfl, (hg2.keep (ho2 _) hoff).mono fun b _ q => q.1⟩
  | true =>
    cases q1 : decide (made = 0) with
    | true =>
      have e1 : restB (X.map (·.1)) r made nth = false := by unfold restB; rw [← hF, q1]; simp
      unfold PostE restP restE errV
      rw [e1]
      repeat' (first
        | ((with_reducible show codeW _ _ _ _ (codeI _ _) _ _ _ _); first | (apply st_seq; exact rfl) | (refine st_reg ?_ rfl rfl ?_; exact rfl; (conv => arg 4; whnf); (conv => arg 3; whnf)) | (refine st_dw ?_ rfl rfl ?_ ?_; exact rfl; kernel_rfl; (conv => arg 5; whnf); (conv => arg 3; whnf)) | (refine st_cond ?_ rfl ?_; exact rfl; (conv => arg 1; arg 2; whnf)) | (refine st_block ?_ rfl ?_; exact rfl; (conv => arg 9; arg 1; whnf)) | (apply st_skip; exact rfl) | (refine st_exit ?_ rfl ?_; exact rfl; (conv in exitId _ => whnf)) | (apply st_ret; exact rfl))
        | ((with_reducible refine retW_intro rfl ?_); (conv => arg 2; whnf))
        | ((with_reducible refine ifB_split (fun hb => ?_) (fun hb => ?_)) <;> (try rw [Bool.not_true] at hb) <;> (try rw [Bool.not_false] at hb) <;> (try simp only [hb]))
        | ((with_reducible refine gW_split (fun hb => ?_) (fun hb => ?_)) <;> (try rw [Bool.not_true] at hb) <;> (try rw [Bool.not_false] at hb) <;> (try simp only [hb]))
        | ((with_reducible refine gX_split (fun hb => ?_) (fun hb => ?_)) <;> (try rw [Bool.not_true] at hb) <;> (try rw [Bool.not_false] at hb) <;> (try simp only [hb]))
        | ((with_reducible show drawI _ _ _ _ _ _ _ _ _); first | (apply kI_rd; exact rfl) | (apply kI_rg; exact rfl; exact rfl) | (apply kI_cv; exact rfl; kernel_rfl) | (apply kI_al; exact rfl; exact rfl) | (apply kI_ex; exact rfl; kernel_rfl; exact rfl) | (apply kI_eg; exact rfl; kernel_rfl; exact rfl) | (apply kI_nl))
        | ((with_reducible show eOk _ _ _ _ _ _); first | (exact eok_nil) | (apply ke_rd; exact rfl) | (apply ke_rg; exact rfl; exact rfl) | (apply ke_cv; exact rfl; kernel_rfl) | (apply ke_al; exact rfl; exact rfl))
        | ((with_reducible apply freshIs_new); kernel_rfl)
        | (simp only [B, xB, F, Nat.reduceLT, Nat.reduceLeDiff, Nat.reduceEqDiff, Nat.reduceAdd, Nat.reduceMul, Nat.reduceSub, ↓reduceIte, eq_self, q1, c0, z0, put_sts, w0, cellAt_sts w0, hso]))
      exact ⟨oo.sts (.inr (by omega)), _, rfl, (hg2.keep (ho2 _) hoff).mono fun b _ q => q.1⟩
    | false =>
    cases q2 : decide (r.1 < made) with
    | true =>
      have e1 : restB (X.map (·.1)) r made nth = false := by unfold restB; rw [← hF, q1, q2]; simp
      unfold PostE restP restE errV
      rw [e1]
      repeat' (first
        | ((with_reducible show codeW _ _ _ _ (codeI _ _) _ _ _ _); first | (apply st_seq; exact rfl) | (refine st_reg ?_ rfl rfl ?_; exact rfl; (conv => arg 4; whnf); (conv => arg 3; whnf)) | (refine st_dw ?_ rfl rfl ?_ ?_; exact rfl; kernel_rfl; (conv => arg 5; whnf); (conv => arg 3; whnf)) | (refine st_cond ?_ rfl ?_; exact rfl; (conv => arg 1; arg 2; whnf)) | (refine st_block ?_ rfl ?_; exact rfl; (conv => arg 9; arg 1; whnf)) | (apply st_skip; exact rfl) | (refine st_exit ?_ rfl ?_; exact rfl; (conv in exitId _ => whnf)) | (apply st_ret; exact rfl))
        | ((with_reducible refine retW_intro rfl ?_); (conv => arg 2; whnf))
        | ((with_reducible refine ifB_split (fun hb => ?_) (fun hb => ?_)) <;> (try rw [Bool.not_true] at hb) <;> (try rw [Bool.not_false] at hb) <;> (try simp only [hb]))
        | ((with_reducible refine gW_split (fun hb => ?_) (fun hb => ?_)) <;> (try rw [Bool.not_true] at hb) <;> (try rw [Bool.not_false] at hb) <;> (try simp only [hb]))
        | ((with_reducible refine gX_split (fun hb => ?_) (fun hb => ?_)) <;> (try rw [Bool.not_true] at hb) <;> (try rw [Bool.not_false] at hb) <;> (try simp only [hb]))
        | ((with_reducible show drawI _ _ _ _ _ _ _ _ _); first | (apply kI_rd; exact rfl) | (apply kI_rg; exact rfl; exact rfl) | (apply kI_cv; exact rfl; kernel_rfl) | (apply kI_al; exact rfl; exact rfl) | (apply kI_ex; exact rfl; kernel_rfl; exact rfl) | (apply kI_eg; exact rfl; kernel_rfl; exact rfl) | (apply kI_nl))
        | ((with_reducible show eOk _ _ _ _ _ _); first | (exact eok_nil) | (apply ke_rd; exact rfl) | (apply ke_rg; exact rfl; exact rfl) | (apply ke_cv; exact rfl; kernel_rfl) | (apply ke_al; exact rfl; exact rfl))
        | ((with_reducible apply freshIs_new); kernel_rfl)
        | (simp only [B, xB, F, Nat.reduceLT, Nat.reduceLeDiff, Nat.reduceEqDiff, Nat.reduceAdd, Nat.reduceMul, Nat.reduceSub, ↓reduceIte, eq_self, q1, q2, r0, c0, z0, put_sts, w0, cellAt_sts w0, hso]))
      exact ⟨oo.sts (.inr (by omega)), _, rfl, (hg2.keep (ho2 _) hoff).mono fun b _ q => q.1⟩
    | false =>
    cases q3 : decide (nth = 0) with
    | true =>
      have e1 : restB (X.map (·.1)) r made nth = false := by unfold restB; rw [← hF, q1, q2, q3]; simp
      unfold PostE restP restE errV
      rw [e1]
      repeat' (first
        | ((with_reducible show codeW _ _ _ _ (codeI _ _) _ _ _ _); first | (apply st_seq; exact rfl) | (refine st_reg ?_ rfl rfl ?_; exact rfl; (conv => arg 4; whnf); (conv => arg 3; whnf)) | (refine st_dw ?_ rfl rfl ?_ ?_; exact rfl; kernel_rfl; (conv => arg 5; whnf); (conv => arg 3; whnf)) | (refine st_cond ?_ rfl ?_; exact rfl; (conv => arg 1; arg 2; whnf)) | (refine st_block ?_ rfl ?_; exact rfl; (conv => arg 9; arg 1; whnf)) | (apply st_skip; exact rfl) | (refine st_exit ?_ rfl ?_; exact rfl; (conv in exitId _ => whnf)) | (apply st_ret; exact rfl))
        | ((with_reducible refine retW_intro rfl ?_); (conv => arg 2; whnf))
        | ((with_reducible refine ifB_split (fun hb => ?_) (fun hb => ?_)) <;> (try rw [Bool.not_true] at hb) <;> (try rw [Bool.not_false] at hb) <;> (try simp only [hb]))
        | ((with_reducible refine gW_split (fun hb => ?_) (fun hb => ?_)) <;> (try rw [Bool.not_true] at hb) <;> (try rw [Bool.not_false] at hb) <;> (try simp only [hb]))
        | ((with_reducible refine gX_split (fun hb => ?_) (fun hb => ?_)) <;> (try rw [Bool.not_true] at hb) <;> (try rw [Bool.not_false] at hb) <;> (try simp only [hb]))
        | ((with_reducible show drawI _ _ _ _ _ _ _ _ _); first | (apply kI_rd; exact rfl) | (apply kI_rg; exact rfl; exact rfl) | (apply kI_cv; exact rfl; kernel_rfl) | (apply kI_al; exact rfl; exact rfl) | (apply kI_ex; exact rfl; kernel_rfl; exact rfl) | (apply kI_eg; exact rfl; kernel_rfl; exact rfl) | (apply kI_nl))
        | ((with_reducible show eOk _ _ _ _ _ _); first | (exact eok_nil) | (apply ke_rd; exact rfl) | (apply ke_rg; exact rfl; exact rfl) | (apply ke_cv; exact rfl; kernel_rfl) | (apply ke_al; exact rfl; exact rfl))
        | ((with_reducible apply freshIs_new); kernel_rfl)
        | (simp only [B, xB, F, Nat.reduceLT, Nat.reduceLeDiff, Nat.reduceEqDiff, Nat.reduceAdd, Nat.reduceMul, Nat.reduceSub, ↓reduceIte, eq_self, q1, q2, q3, r0, c0, z0, put_sts, w0, cellAt_sts w0, hso]))
      exact ⟨oo.sts (.inr (by omega)), _, rfl, (hg2.keep (ho2 _) hoff).mono fun b _ q => q.1⟩
    | false =>
    have hlen := fun h (hh : Has h s X) => hh.1.len (P := P) u24
    rcases gs_last X with hX0 | ⟨Y, x, hX0⟩
    · subst hX0
      have d1 : decide (0 < ([] : List (Gn × AV)).length) = false := rfl
      have e1 : restB (([] : List (Gn × AV)).map (·.1)) r made nth = true := by unfold restB; rw [← hF, q1, q2, q3]; simp
      unfold PostE restP restE errV
      rw [e1]
      repeat' (first
        | ((with_reducible show codeW _ _ _ _ (codeI _ _) _ _ _ _); first | (apply st_seq; exact rfl) | (refine st_reg ?_ rfl rfl ?_; exact rfl; (conv => arg 4; whnf); (conv => arg 3; whnf)) | (refine st_dw ?_ rfl rfl ?_ ?_; exact rfl; kernel_rfl; (conv => arg 5; whnf); (conv => arg 3; whnf)) | (refine st_cond ?_ rfl ?_; exact rfl; (conv => arg 1; arg 2; whnf)) | (refine st_block ?_ rfl ?_; exact rfl; (conv => arg 9; arg 1; whnf)) | (apply st_skip; exact rfl) | (refine st_exit ?_ rfl ?_; exact rfl; (conv in exitId _ => whnf)) | (apply st_ret; exact rfl))
        | ((with_reducible refine retW_intro rfl ?_); (conv => arg 2; whnf))
        | ((with_reducible refine ifB_split (fun hb => ?_) (fun hb => ?_)) <;> (try rw [Bool.not_true] at hb) <;> (try rw [Bool.not_false] at hb) <;> (try simp only [hb]))
        | ((with_reducible refine gW_split (fun hb => ?_) (fun hb => ?_)) <;> (try rw [Bool.not_true] at hb) <;> (try rw [Bool.not_false] at hb) <;> (try simp only [hb]))
        | ((with_reducible refine gX_split (fun hb => ?_) (fun hb => ?_)) <;> (try rw [Bool.not_true] at hb) <;> (try rw [Bool.not_false] at hb) <;> (try simp only [hb]))
        | ((with_reducible show drawI _ _ _ _ _ _ _ _ _); first | (apply kI_rd; exact rfl) | (apply kI_rg; exact rfl; exact rfl) | (apply kI_cv; exact rfl; kernel_rfl) | (apply kI_al; exact rfl; exact rfl) | (apply kI_ex; exact rfl; kernel_rfl; exact rfl) | (apply kI_eg; exact rfl; kernel_rfl; exact rfl) | (apply kI_nl))
        | ((with_reducible show eOk _ _ _ _ _ _); first | (exact eok_nil) | (apply ke_rd; exact rfl) | (apply ke_rg; exact rfl; exact rfl) | (apply ke_cv; exact rfl; kernel_rfl) | (apply ke_al; exact rfl; exact rfl))
        | ((with_reducible apply freshIs_new); kernel_rfl)
        | (simp only [B, xB, F, Nat.reduceLT, Nat.reduceLeDiff, Nat.reduceEqDiff, Nat.reduceAdd, Nat.reduceMul, Nat.reduceSub, ↓reduceIte, eq_self, q1, q2, q3, r0, r1, c0, z0, hlen _ (hh.keep oo), d1]))
      obtain ⟨h3, h3e⟩ : ∃ h3, h3 = h2 := ⟨_, rfl⟩
      have o23 : Only h2 h3 [] := by rw [h3e]; exact Only.refl _ _
      have x3 := o23.1
      rw [← h3e]
      refine ((putC (offP p h.nx h2.nx) h3 _ _ r made nth (fun b hb => ⟨hp b (by omega), .inr (by omega)⟩) (hg2.keep0 o23) hz).call P).mono P ?_
      rintro v h4 ⟨o4, hg4⟩
      have hg40 := hg4
      obtain ⟨s4, X4, rfl, -, hh4, -, -⟩ := hg4
      have hso4 := SliceAt.one hh4.1
      first | replace w0 := kcell w0 o23 (by omega) (by simp) | replace w0 := kwr w0 o23 (by omega) (by simp)
      first | replace z0 := kcell z0 o23 (by omega) (by simp) | replace z0 := kwr z0 o23 (by omega) (by simp)
      first | replace w0 := kcell w0 o4 (by omega) (by simp) | replace w0 := kwr w0 o4 (by omega) (by simp)
      first | replace z0 := kcell z0 o4 (by omega) (by simp) | replace z0 := kwr z0 o4 (by omega) (by simp)
      have oo4 : Only h h4 [] := (oo.trans o23 (fun _ h => h) (fun _ h => by cases h)).trans o4 (fun _ h => h) (fun _ h => by cases h)
      have x4 := o4.1
      have o45 : ∀ v, Only h4 (h4.sts (h.nx + 2) 0 [v]) [h.nx + 2] := fun v => (Only.refl _ _).sts (.inl (by simp))
      repeat' (first
        | ((with_reducible show codeW _ _ _ _ (codeI _ _) _ _ _ _); first | (apply st_seq; exact rfl) | (refine st_reg ?_ rfl rfl ?_; exact rfl; (conv => arg 4; whnf); (conv => arg 3; whnf)) | (refine st_dw ?_ rfl rfl ?_ ?_; exact rfl; kernel_rfl; (conv => arg 5; whnf); (conv => arg 3; whnf)) | (refine st_cond ?_ rfl ?_; exact rfl; (conv => arg 1; arg 2; whnf)) | (refine st_block ?_ rfl ?_; exact rfl; (conv => arg 9; arg 1; whnf)) | (apply st_skip; exact rfl) | (refine st_exit ?_ rfl ?_; exact rfl; (conv in exitId _ => whnf)) | (apply st_ret; exact rfl))
        | ((with_reducible refine retW_intro rfl ?_); (conv => arg 2; whnf))
        | ((with_reducible refine ifB_split (fun hb => ?_) (fun hb => ?_)) <;> (try rw [Bool.not_true] at hb) <;> (try rw [Bool.not_false] at hb) <;> (try simp only [hb]))
        | ((with_reducible refine gW_split (fun hb => ?_) (fun hb => ?_)) <;> (try rw [Bool.not_true] at hb) <;> (try rw [Bool.not_false] at hb) <;> (try simp only [hb]))
        | ((with_reducible refine gX_split (fun hb => ?_) (fun hb => ?_)) <;> (try rw [Bool.not_true] at hb) <;> (try rw [Bool.not_false] at hb) <;> (try simp only [hb]))
        | ((with_reducible show drawI _ _ _ _ _ _ _ _ _); first | (apply kI_rd; exact rfl) | (apply kI_rg; exact rfl; exact rfl) | (apply kI_cv; exact rfl; kernel_rfl) | (apply kI_al; exact rfl; exact rfl) | (apply kI_ex; exact rfl; kernel_rfl; exact rfl) | (apply kI_eg; exact rfl; kernel_rfl; exact rfl) | (apply kI_nl))
        | ((with_reducible show eOk _ _ _ _ _ _); first | (exact eok_nil) | (apply ke_rd; exact rfl) | (apply ke_rg; exact rfl; exact rfl) | (apply ke_cv; exact rfl; kernel_rfl) | (apply ke_al; exact rfl; exact rfl))
        | ((with_reducible apply freshIs_new); kernel_rfl)
        | (simp only [B, xB, F, Nat.reduceLT, Nat.reduceLeDiff, Nat.reduceEqDiff, Nat.reduceAdd, Nat.reduceMul, Nat.reduceSub, ↓reduceIte, eq_self, z0, put_sts, w0, cellAt_sts w0, hso4]))
      exact ⟨oo4.sts (.inr (by omega)), _, rfl, (hg40.keep (o45 _) hoff).mono fun b _ q => q.1⟩
    · have hXl : X.length = Y.length + 1 := by rw [hX0]; simp
      have d1 : decide (0 < X.length) = true := decide_eq_true (by omega)
      have e1 : wrapF .i64 (Int.ofNat X.length - Int.ofNat 1) = Int.ofNat (X.length - 1) := i64_sub (by omega) (by omega)
      have lt1 : (X.length - 1 < X.length) = True := by simp; omega
      obtain ⟨b, o, cap, rfl, hb, _⟩ := hh.1.place (by omega)
      have hx : X[X.length - 1]? = some x := by rw [hX0]; simp
      obtain ⟨g0, g1, g2, g3, g4, g5⟩ := gC_at (hh.keep oo).1 hx
      have hxm : x ∈ X := List.mem_of_getElem? hx
      have hsl := SliceAt.one (hh.2 x hxm)
      have hb2 : (b = h2.nx) = False := by simp; omega
      have hl2 := (hh.2 x hxm).len (P := P) u29
      have hxz : x.1.puts.length ≤ 900 := hz.2 x.1 (List.mem_map.2 ⟨x, hxm, rfl⟩)
      have w1' : wrapF .u64 (Int.ofNat x.1.puts.length) = Int.ofNat x.1.puts.length := u64_nat (by omega)
      have n0 : (h.nx = h2.nx) = False := by simp; omega
      have n1 : (h.nx + 1 = h2.nx) = False := by simp; omega
      have n2 : (h.nx + 2 = h2.nx) = False := by simp; omega
      have w5 : ∀ l l', wrAt ((h2.newCells 87 l).sts h2.nx 0 l') (h.nx + 2) = true := fun l l' => by rw [wrAt_sts, wrAt_new, if_neg (by omega)]; exact w0
      have hrb : ∀ c, (match (X.map (·.1)).getLast? with | none => true | some g => if g.ended then decide (g.en.1 < made) else decide (made = g.made) && decide (nth = (g.first + g.puts.length) % M64)) = c → restB (X.map (·.1)) r made nth = c := fun c hc => by unfold restB; rw [← hF, q1, q2, q3, hc]; rfl
      have hlast : (X.map (·.1)).getLast? = some x.1 := by rw [hX0]; simp
      rw [hlast] at hrb
      simp only at hrb
      unfold PostE restP restE errV
      cases he : x.1.ended with
      | true =>
        rw [he] at g5 hrb
        rw [if_pos rfl] at hrb
        cases q4 : decide (made ≤ x.1.en.1) with
        | true =>
          rw [hrb false (decide_eq_false (by have := of_decide_eq_true q4; omega))]
          repeat' (first
            | ((with_reducible show codeW _ _ _ _ (codeI _ _) _ _ _ _); first | (apply st_seq; exact rfl) | (refine st_reg ?_ rfl rfl ?_; exact rfl; (conv => arg 4; whnf); (conv => arg 3; whnf)) | (refine st_dw ?_ rfl rfl ?_ ?_; exact rfl; kernel_rfl; (conv => arg 5; whnf); (conv => arg 3; whnf)) | (refine st_cond ?_ rfl ?_; exact rfl; (conv => arg 1; arg 2; whnf)) | (refine st_block ?_ rfl ?_; exact rfl; (conv => arg 9; arg 1; whnf)) | (apply st_skip; exact rfl) | (refine st_exit ?_ rfl ?_; exact rfl; (conv in exitId _ => whnf)) | (apply st_ret; exact rfl))
            | ((with_reducible refine retW_intro rfl ?_); (conv => arg 2; whnf))
            | ((with_reducible refine ifB_split (fun hb => ?_) (fun hb => ?_)) <;> (try rw [Bool.not_true] at hb) <;> (try rw [Bool.not_false] at hb) <;> (try simp only [hb]))
            | ((with_reducible refine gW_split (fun hb => ?_) (fun hb => ?_)) <;> (try rw [Bool.not_true] at hb) <;> (try rw [Bool.not_false] at hb) <;> (try simp only [hb]))
            | ((with_reducible refine gX_split (fun hb => ?_) (fun hb => ?_)) <;> (try rw [Bool.not_true] at hb) <;> (try rw [Bool.not_false] at hb) <;> (try simp only [hb]))
            | ((with_reducible show drawI _ _ _ _ _ _ _ _ _); first | (apply kI_rd; exact rfl) | (apply kI_rg; exact rfl; exact rfl) | (apply kI_cv; exact rfl; kernel_rfl) | (apply kI_al; exact rfl; exact rfl) | (apply kI_ex; exact rfl; kernel_rfl; exact rfl) | (apply kI_eg; exact rfl; kernel_rfl; exact rfl) | (apply kI_nl))
            | ((with_reducible show eOk _ _ _ _ _ _); first | (exact eok_nil) | (apply ke_rd; exact rfl) | (apply ke_rg; exact rfl; exact rfl) | (apply ke_cv; exact rfl; kernel_rfl) | (apply ke_al; exact rfl; exact rfl))
            | ((with_reducible apply freshIs_new); kernel_rfl)
            | (simp only [B, xB, F, Nat.reduceLT, Nat.reduceLeDiff, Nat.reduceEqDiff, Nat.reduceAdd, Nat.reduceMul, Nat.reduceSub, ↓reduceIte, eq_self, q1, q2, q3, r0, r1, c0, z0, hlen _ (hh.keep oo), d1, e1, lt1, g0, g1, g2, g3, g4, g5, hsl, hb2, n0, n1, n2, w1', u64_mod, wrAt_new, wrAt_sts, cellAt_sts (w5 _ _), put_sts, w0, hl2, q4]))
          exact ⟨((oo.new _ _).sts (.inr (by omega))).sts (.inr (by omega)), _, rfl, ((hg2.keep0 (((Only.refl _ _).new _ _).sts (.inr (by omega)))).keep (S := [h.nx + 2]) ((Only.refl _ _).sts (.inl (by simp))) hoff).mono fun b _ q => q.1⟩
        | false =>
          rw [hrb true (decide_eq_true (by have := of_decide_eq_false q4; omega))]
          repeat' (first
            | ((with_reducible show codeW _ _ _ _ (codeI _ _) _ _ _ _); first | (apply st_seq; exact rfl) | (refine st_reg ?_ rfl rfl ?_; exact rfl; (conv => arg 4; whnf); (conv => arg 3; whnf)) | (refine st_dw ?_ rfl rfl ?_ ?_; exact rfl; kernel_rfl; (conv => arg 5; whnf); (conv => arg 3; whnf)) | (refine st_cond ?_ rfl ?_; exact rfl; (conv => arg 1; arg 2; whnf)) | (refine st_block ?_ rfl ?_; exact rfl; (conv => arg 9; arg 1; whnf)) | (apply st_skip; exact rfl) | (refine st_exit ?_ rfl ?_; exact rfl; (conv in exitId _ => whnf)) | (apply st_ret; exact rfl))
            | ((with_reducible refine retW_intro rfl ?_); (conv => arg 2; whnf))
            | ((with_reducible refine ifB_split (fun hb => ?_) (fun hb => ?_)) <;> (try rw [Bool.not_true] at hb) <;> (try rw [Bool.not_false] at hb) <;> (try simp only [hb]))
            | ((with_reducible refine gW_split (fun hb => ?_) (fun hb => ?_)) <;> (try rw [Bool.not_true] at hb) <;> (try rw [Bool.not_false] at hb) <;> (try simp only [hb]))
            | ((with_reducible refine gX_split (fun hb => ?_) (fun hb => ?_)) <;> (try rw [Bool.not_true] at hb) <;> (try rw [Bool.not_false] at hb) <;> (try simp only [hb]))
            | ((with_reducible show drawI _ _ _ _ _ _ _ _ _); first | (apply kI_rd; exact rfl) | (apply kI_rg; exact rfl; exact rfl) | (apply kI_cv; exact rfl; kernel_rfl) | (apply kI_al; exact rfl; exact rfl) | (apply kI_ex; exact rfl; kernel_rfl; exact rfl) | (apply kI_eg; exact rfl; kernel_rfl; exact rfl) | (apply kI_nl))
            | ((with_reducible show eOk _ _ _ _ _ _); first | (exact eok_nil) | (apply ke_rd; exact rfl) | (apply ke_rg; exact rfl; exact rfl) | (apply ke_cv; exact rfl; kernel_rfl) | (apply ke_al; exact rfl; exact rfl))
            | ((with_reducible apply freshIs_new); kernel_rfl)
            | (simp only [B, xB, F, Nat.reduceLT, Nat.reduceLeDiff, Nat.reduceEqDiff, Nat.reduceAdd, Nat.reduceMul, Nat.reduceSub, ↓reduceIte, eq_self, q1, q2, q3, r0, r1, c0, z0, hlen _ (hh.keep oo), d1, e1, lt1, g0, g1, g2, g3, g4, g5, hsl, hb2, n0, n1, n2, w1', u64_mod, wrAt_new, wrAt_sts, cellAt_sts (w5 _ _), put_sts, w0, hl2, q4]))
          obtain ⟨h3, h3e⟩ : ∃ h3, h3 = (h2.newCells 87 [.int .u64 (.ofNat 0), .int .u64 (.ofNat 0), .nilslice, .int .u64 (.ofNat 0), .int .u64 (.ofNat 0), .bool false]).sts h2.nx 0 [.int .u64 (.ofNat x.1.made), .int .u64 (.ofNat x.1.first), x.2, .int .u64 (.ofNat x.1.en.1), .int .u64 (.ofNat x.1.en.2), .bool true] := ⟨_, rfl⟩
          have o23 : Only h2 h3 [] := by rw [h3e]; exact ((Only.refl _ _).new _ _).sts (.inr (Nat.le_refl _))
          have x3 := o23.1
          rw [← h3e]
          refine ((putC (offP p h.nx h2.nx) h3 _ _ r made nth (fun b hb => ⟨hp b (by omega), .inr (by omega)⟩) (hg2.keep0 o23) hz).call P).mono P ?_
          rintro v h4 ⟨o4, hg4⟩
          have hg40 := hg4
          obtain ⟨s4, X4, rfl, -, hh4, -, -⟩ := hg4
          have hso4 := SliceAt.one hh4.1
          first | replace w0 := kcell w0 o23 (by omega) (by simp) | replace w0 := kwr w0 o23 (by omega) (by simp)
          first | replace z0 := kcell z0 o23 (by omega) (by simp) | replace z0 := kwr z0 o23 (by omega) (by simp)
          first | replace w0 := kcell w0 o4 (by omega) (by simp) | replace w0 := kwr w0 o4 (by omega) (by simp)
          first | replace z0 := kcell z0 o4 (by omega) (by simp) | replace z0 := kwr z0 o4 (by omega) (by simp)
          have oo4 : Only h h4 [] := (oo.trans o23 (fun _ h => h) (fun _ h => by cases h)).trans o4 (fun _ h => h) (fun _ h => by cases h)
          have x4 := o4.1
          have o45 : ∀ v, Only h4 (h4.sts (h.nx + 2) 0 [v]) [h.nx + 2] := fun v => (Only.refl _ _).sts (.inl (by simp))
          repeat' (first
            | ((with_reducible show codeW _ _ _ _ (codeI _ _) _ _ _ _); first | (apply st_seq; exact rfl) | (refine st_reg ?_ rfl rfl ?_; exact rfl; (conv => arg 4; whnf); (conv => arg 3; whnf)) | (refine st_dw ?_ rfl rfl ?_ ?_; exact rfl; kernel_rfl; (conv => arg 5; whnf); (conv => arg 3; whnf)) | (refine st_cond ?_ rfl ?_; exact rfl; (conv => arg 1; arg 2; whnf)) | (refine st_block ?_ rfl ?_; exact rfl; (conv => arg 9; arg 1; whnf)) | (apply st_skip; exact rfl) | (refine st_exit ?_ rfl ?_; exact rfl; (conv in exitId _ => whnf)) | (apply st_ret; exact rfl))
            | ((with_reducible refine retW_intro rfl ?_); (conv => arg 2; whnf))
            | ((with_reducible refine ifB_split (fun hb => ?_) (fun hb => ?_)) <;> (try rw [Bool.not_true] at hb) <;> (try rw [Bool.not_false] at hb) <;> (try simp only [hb]))
            | ((with_reducible refine gW_split (fun hb => ?_) (fun hb => ?_)) <;> (try rw [Bool.not_true] at hb) <;> (try rw [Bool.not_false] at hb) <;> (try simp only [hb]))
            | ((with_reducible refine gX_split (fun hb => ?_) (fun hb => ?_)) <;> (try rw [Bool.not_true] at hb) <;> (try rw [Bool.not_false] at hb) <;> (try simp only [hb]))
            | ((with_reducible show drawI _ _ _ _ _ _ _ _ _); first | (apply kI_rd; exact rfl) | (apply kI_rg; exact rfl; exact rfl) | (apply kI_cv; exact rfl; kernel_rfl) | (apply kI_al; exact rfl; exact rfl) | (apply kI_ex; exact rfl; kernel_rfl; exact rfl) | (apply kI_eg; exact rfl; kernel_rfl; exact rfl) | (apply kI_nl))
            | ((with_reducible show eOk _ _ _ _ _ _); first | (exact eok_nil) | (apply ke_rd; exact rfl) | (apply ke_rg; exact rfl; exact rfl) | (apply ke_cv; exact rfl; kernel_rfl) | (apply ke_al; exact rfl; exact rfl))
            | ((with_reducible apply freshIs_new); kernel_rfl)
            | (simp only [B, xB, F, Nat.reduceLT, Nat.reduceLeDiff, Nat.reduceEqDiff, Nat.reduceAdd, Nat.reduceMul, Nat.reduceSub, ↓reduceIte, eq_self, z0, put_sts, w0, cellAt_sts w0, hso4]))
          exact ⟨oo4.sts (.inr (by omega)), _, rfl, (hg40.keep (o45 _) hoff).mono fun b _ q => q.1⟩
      | false =>
        rw [he] at g5 hrb
        rw [if_neg (by simp)] at hrb
        cases q4 : decide (made = x.1.made) with
        | false =>
          rw [q4] at hrb
          rw [hrb false rfl]
          repeat' (first
            | ((with_reducible show codeW _ _ _ _ (codeI _ _) _ _ _ _); first | (apply st_seq; exact rfl) | (refine st_reg ?_ rfl rfl ?_; exact rfl; (conv => arg 4; whnf); (conv => arg 3; whnf)) | (refine st_dw ?_ rfl rfl ?_ ?_; exact rfl; kernel_rfl; (conv => arg 5; whnf); (conv => arg 3; whnf)) | (refine st_cond ?_ rfl ?_; exact rfl; (conv => arg 1; arg 2; whnf)) | (refine st_block ?_ rfl ?_; exact rfl; (conv => arg 9; arg 1; whnf)) | (apply st_skip; exact rfl) | (refine st_exit ?_ rfl ?_; exact rfl; (conv in exitId _ => whnf)) | (apply st_ret; exact rfl))
            | ((with_reducible refine retW_intro rfl ?_); (conv => arg 2; whnf))
            | ((with_reducible refine ifB_split (fun hb => ?_) (fun hb => ?_)) <;> (try rw [Bool.not_true] at hb) <;> (try rw [Bool.not_false] at hb) <;> (try simp only [hb]))
            | ((with_reducible refine gW_split (fun hb => ?_) (fun hb => ?_)) <;> (try rw [Bool.not_true] at hb) <;> (try rw [Bool.not_false] at hb) <;> (try simp only [hb]))
            | ((with_reducible refine gX_split (fun hb => ?_) (fun hb => ?_)) <;> (try rw [Bool.not_true] at hb) <;> (try rw [Bool.not_false] at hb) <;> (try simp only [hb]))
            | ((with_reducible show drawI _ _ _ _ _ _ _ _ _); first | (apply kI_rd; exact rfl) | (apply kI_rg; exact rfl; exact rfl) | (apply kI_cv; exact rfl; kernel_rfl) | (apply kI_al; exact rfl; exact rfl) | (apply kI_ex; exact rfl; kernel_rfl; exact rfl) | (apply kI_eg; exact rfl; kernel_rfl; exact rfl) | (apply kI_nl))
            | ((with_reducible show eOk _ _ _ _ _ _); first | (exact eok_nil) | (apply ke_rd; exact rfl) | (apply ke_rg; exact rfl; exact rfl) | (apply ke_cv; exact rfl; kernel_rfl) | (apply ke_al; exact rfl; exact rfl))
            | ((with_reducible apply freshIs_new); kernel_rfl)
            | (simp only [B, xB, F, Nat.reduceLT, Nat.reduceLeDiff, Nat.reduceEqDiff, Nat.reduceAdd, Nat.reduceMul, Nat.reduceSub, ↓reduceIte, eq_self, q1, q2, q3, r0, r1, c0, z0, hlen _ (hh.keep oo), d1, e1, lt1, g0, g1, g2, g3, g4, g5, hsl, hb2, n0, n1, n2, w1', u64_mod, wrAt_new, wrAt_sts, cellAt_sts (w5 _ _), put_sts, w0, hl2, q4]))
          exact ⟨((oo.new _ _).sts (.inr (by omega))).sts (.inr (by omega)), _, rfl, ((hg2.keep0 (((Only.refl _ _).new _ _).sts (.inr (by omega)))).keep (S := [h.nx + 2]) ((Only.refl _ _).sts (.inl (by simp))) hoff).mono fun b _ q => q.1⟩
        | true =>
          rw [q4] at hrb
          cases q5 : decide (nth = (x.1.first + x.1.puts.length) % M64) with
          | false =>
            rw [q5] at hrb
            rw [hrb false rfl]
            repeat' (first
              | ((with_reducible show codeW _ _ _ _ (codeI _ _) _ _ _ _); first | (apply st_seq; exact rfl) | (refine st_reg ?_ rfl rfl ?_; exact rfl; (conv => arg 4; whnf); (conv => arg 3; whnf)) | (refine st_dw ?_ rfl rfl ?_ ?_; exact rfl; kernel_rfl; (conv => arg 5; whnf); (conv => arg 3; whnf)) | (refine st_cond ?_ rfl ?_; exact rfl; (conv => arg 1; arg 2; whnf)) | (refine st_block ?_ rfl ?_; exact rfl; (conv => arg 9; arg 1; whnf)) | (apply st_skip; exact rfl) | (refine st_exit ?_ rfl ?_; exact rfl; (conv in exitId _ => whnf)) | (apply st_ret; exact rfl))
              | ((with_reducible refine retW_intro rfl ?_); (conv => arg 2; whnf))
              | ((with_reducible refine ifB_split (fun hb => ?_) (fun hb => ?_)) <;> (try rw [Bool.not_true] at hb) <;> (try rw [Bool.not_false] at hb) <;> (try simp only [hb]))
              | ((with_reducible refine gW_split (fun hb => ?_) (fun hb => ?_)) <;> (try rw [Bool.not_true] at hb) <;> (try rw [Bool.not_false] at hb) <;> (try simp only [hb]))
              | ((with_reducible refine gX_split (fun hb => ?_) (fun hb => ?_)) <;> (try rw [Bool.not_true] at hb) <;> (try rw [Bool.not_false] at hb) <;> (try simp only [hb]))
              | ((with_reducible show drawI _ _ _ _ _ _ _ _ _); first | (apply kI_rd; exact rfl) | (apply kI_rg; exact rfl; exact rfl) | (apply kI_cv; exact rfl; kernel_rfl) | (apply kI_al; exact rfl; exact rfl) | (apply kI_ex; exact rfl; kernel_rfl; exact rfl) | (apply kI_eg; exact rfl; kernel_rfl; exact rfl) | (apply kI_nl))
              | ((with_reducible show eOk _ _ _ _ _ _); first | (exact eok_nil) | (apply ke_rd; exact rfl) | (apply ke_rg; exact rfl; exact rfl) | (apply ke_cv; exact rfl; kernel_rfl) | (apply ke_al; exact rfl; exact rfl))
              | ((with_reducible apply freshIs_new); kernel_rfl)
              | (simp only [B, xB, F, Nat.reduceLT, Nat.reduceLeDiff, Nat.reduceEqDiff, Nat.reduceAdd, Nat.reduceMul, Nat.reduceSub, ↓reduceIte, eq_self, q1, q2, q3, r0, r1, c0, z0, hlen _ (hh.keep oo), d1, e1, lt1, g0, g1, g2, g3, g4, g5, hsl, hb2, n0, n1, n2, w1', u64_mod, wrAt_new, wrAt_sts, cellAt_sts (w5 _ _), put_sts, w0, hl2, q4, q5]))
            exact ⟨((oo.new _ _).sts (.inr (by omega))).sts (.inr (by omega)), _, rfl, ((hg2.keep0 (((Only.refl _ _).new _ _).sts (.inr (by omega)))).keep (S := [h.nx + 2]) ((Only.refl _ _).sts (.inl (by simp))) hoff).mono fun b _ q => q.1⟩
          | true =>
            rw [q5] at hrb
            rw [hrb true rfl]
            repeat' (first
              | ((with_reducible show codeW _ _ _ _ (codeI _ _) _ _ _ _); first | (apply st_seq; exact rfl) | (refine st_reg ?_ rfl rfl ?_; exact rfl; (conv => arg 4; whnf); (conv => arg 3; whnf)) | (refine st_dw ?_ rfl rfl ?_ ?_; exact rfl; kernel_rfl; (conv => arg 5; whnf); (conv => arg 3; whnf)) | (refine st_cond ?_ rfl ?_; exact rfl; (conv => arg 1; arg 2; whnf)) | (refine st_block ?_ rfl ?_; exact rfl; (conv => arg 9; arg 1; whnf)) | (apply st_skip; exact rfl) | (refine st_exit ?_ rfl ?_; exact rfl; (conv in exitId _ => whnf)) | (apply st_ret; exact rfl))
              | ((with_reducible refine retW_intro rfl ?_); (conv => arg 2; whnf))
              | ((with_reducible refine ifB_split (fun hb => ?_) (fun hb => ?_)) <;> (try rw [Bool.not_true] at hb) <;> (try rw [Bool.not_false] at hb) <;> (try simp only [hb]))
              | ((with_reducible refine gW_split (fun hb => ?_) (fun hb => ?_)) <;> (try rw [Bool.not_true] at hb) <;> (try rw [Bool.not_false] at hb) <;> (try simp only [hb]))
              | ((with_reducible refine gX_split (fun hb => ?_) (fun hb => ?_)) <;> (try rw [Bool.not_true] at hb) <;> (try rw [Bool.not_false] at hb) <;> (try simp only [hb]))
              | ((with_reducible show drawI _ _ _ _ _ _ _ _ _); first | (apply kI_rd; exact rfl) | (apply kI_rg; exact rfl; exact rfl) | (apply kI_cv; exact rfl; kernel_rfl) | (apply kI_al; exact rfl; exact rfl) | (apply kI_ex; exact rfl; kernel_rfl; exact rfl) | (apply kI_eg; exact rfl; kernel_rfl; exact rfl) | (apply kI_nl))
              | ((with_reducible show eOk _ _ _ _ _ _); first | (exact eok_nil) | (apply ke_rd; exact rfl) | (apply ke_rg; exact rfl; exact rfl) | (apply ke_cv; exact rfl; kernel_rfl) | (apply ke_al; exact rfl; exact rfl))
              | ((with_reducible apply freshIs_new); kernel_rfl)
              | (simp only [B, xB, F, Nat.reduceLT, Nat.reduceLeDiff, Nat.reduceEqDiff, Nat.reduceAdd, Nat.reduceMul, Nat.reduceSub, ↓reduceIte, eq_self, q1, q2, q3, r0, r1, c0, z0, hlen _ (hh.keep oo), d1, e1, lt1, g0, g1, g2, g3, g4, g5, hsl, hb2, n0, n1, n2, w1', u64_mod, wrAt_new, wrAt_sts, cellAt_sts (w5 _ _), put_sts, w0, hl2, q4, q5]))
            obtain ⟨h3, h3e⟩ : ∃ h3, h3 = (h2.newCells 87 [.int .u64 (.ofNat 0), .int .u64 (.ofNat 0), .nilslice, .int .u64 (.ofNat 0), .int .u64 (.ofNat 0), .bool false]).sts h2.nx 0 [.int .u64 (.ofNat x.1.made), .int .u64 (.ofNat x.1.first), x.2, .int .u64 (.ofNat x.1.en.1), .int .u64 (.ofNat x.1.en.2), .bool false] := ⟨_, rfl⟩
            have o23 : Only h2 h3 [] := by rw [h3e]; exact ((Only.refl _ _).new _ _).sts (.inr (Nat.le_refl _))
            have x3 := o23.1
            rw [← h3e]
            refine ((putC (offP p h.nx h2.nx) h3 _ _ r made nth (fun b hb => ⟨hp b (by omega), .inr (by omega)⟩) (hg2.keep0 o23) hz).call P).mono P ?_
            rintro v h4 ⟨o4, hg4⟩
            have hg40 := hg4
            obtain ⟨s4, X4, rfl, -, hh4, -, -⟩ := hg4
            have hso4 := SliceAt.one hh4.1
            first | replace w0 := kcell w0 o23 (by omega) (by simp) | replace w0 := kwr w0 o23 (by omega) (by simp)
            first | replace z0 := kcell z0 o23 (by omega) (by simp) | replace z0 := kwr z0 o23 (by omega) (by simp)
            first | replace w0 := kcell w0 o4 (by omega) (by simp) | replace w0 := kwr w0 o4 (by omega) (by simp)
            first | replace z0 := kcell z0 o4 (by omega) (by simp) | replace z0 := kwr z0 o4 (by omega) (by simp)
            have oo4 : Only h h4 [] := (oo.trans o23 (fun _ h => h) (fun _ h => by cases h)).trans o4 (fun _ h => h) (fun _ h => by cases h)
            have x4 := o4.1
            have o45 : ∀ v, Only h4 (h4.sts (h.nx + 2) 0 [v]) [h.nx + 2] := fun v => (Only.refl _ _).sts (.inl (by simp))
            repeat' (first
              | ((with_reducible show codeW _ _ _ _ (codeI _ _) _ _ _ _); first | (apply st_seq; exact rfl) | (refine st_reg ?_ rfl rfl ?_; exact rfl; (conv => arg 4; whnf); (conv => arg 3; whnf)) | (refine st_dw ?_ rfl rfl ?_ ?_; exact rfl; kernel_rfl; (conv => arg 5; whnf); (conv => arg 3; whnf)) | (refine st_cond ?_ rfl ?_; exact rfl; (conv => arg 1; arg 2; whnf)) | (refine st_block ?_ rfl ?_; exact rfl; (conv => arg 9; arg 1; whnf)) | (apply st_skip; exact rfl) | (refine st_exit ?_ rfl ?_; exact rfl; (conv in exitId _ => whnf)) | (apply st_ret; exact rfl))
              | ((with_reducible refine retW_intro rfl ?_); (conv => arg 2; whnf))
              | ((with_reducible refine ifB_split (fun hb => ?_) (fun hb => ?_)) <;> (try rw [Bool.not_true] at hb) <;> (try rw [Bool.not_false] at hb) <;> (try simp only [hb]))
              | ((with_reducible refine gW_split (fun hb => ?_) (fun hb => ?_)) <;> (try rw [Bool.not_true] at hb) <;> (try rw [Bool.not_false] at hb) <;> (try simp only [hb]))
              | ((with_reducible refine gX_split (fun hb => ?_) (fun hb => ?_)) <;> (try rw [Bool.not_true] at hb) <;> (try rw [Bool.not_false] at hb) <;> (try simp only [hb]))
              | ((with_reducible show drawI _ _ _ _ _ _ _ _ _); first | (apply kI_rd; exact rfl) | (apply kI_rg; exact rfl; exact rfl) | (apply kI_cv; exact rfl; kernel_rfl) | (apply kI_al; exact rfl; exact rfl) | (apply kI_ex; exact rfl; kernel_rfl; exact rfl) | (apply kI_eg; exact rfl; kernel_rfl; exact rfl) | (apply kI_nl))
              | ((with_reducible show eOk _ _ _ _ _ _); first | (exact eok_nil) | (apply ke_rd; exact rfl) | (apply ke_rg; exact rfl; exact rfl) | (apply ke_cv; exact rfl; kernel_rfl) | (apply ke_al; exact rfl; exact rfl))
              | ((with_reducible apply freshIs_new); kernel_rfl)
              | (simp only [B, xB, F, Nat.reduceLT, Nat.reduceLeDiff, Nat.reduceEqDiff, Nat.reduceAdd, Nat.reduceMul, Nat.reduceSub, ↓reduceIte, eq_self, z0, put_sts, w0, cellAt_sts w0, hso4]))
            exact ⟨oo4.sts (.inr (by omega)), _, rfl, (hg40.keep (o45 _) hoff).mono fun b _ q => q.1⟩
end
end Go.Proofs.Ytlkngpckibidlaa.W


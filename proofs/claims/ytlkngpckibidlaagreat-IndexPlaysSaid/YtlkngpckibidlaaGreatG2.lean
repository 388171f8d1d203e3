/-
  index: set.
-/
import Derived.Test.YtlkngpckibidlaaGreatAxI
import Derived.Test.YtlkngpckibidlaaGreatG1
set_option linter.unusedSimpArgs false
set_option linter.unusedVariables false
set_option linter.unusedSectionVars false
open Nat (reduceLT reduceLeDiff reduceEqDiff reduceAdd reduceMul reduceSub)
namespace Go.Proofs.YtlkngpckibidlaaGreat.X
open Go Go.AX
noncomputable section
set_option maxRecDepth 100000
variable {N : Nat → Prop}
theorem RowV.slice {h : H} {v : AV} {n : Nat} {cs : List AV} (hr : RowV h v n cs) : SliceAt h v n cs := by
 cases hr with
 | nil => exact .none
 | opn b n m ty cs h0 hl hm hr =>
  obtain ⟨hlt, t, hg, ht⟩ := hr
  exact .cell b 0 n _ cs hlt fun i hi => by unfold cellAt; rw [hg, Nat.zero_add]; exact ht i hi
 | exa b n c ty cs h0 hl hc hr =>
  obtain ⟨hlt, t, hg, ht⟩ := hr
  exact .cell b 0 n _ cs hlt fun i hi => by unfold cellAt; rw [hg, Nat.zero_add]; exact ht i hi
theorem RowV.keep {h h' : H} {v : AV} {n : Nat} {cs : List AV} (hr : RowV h v n cs) (hx : h.nx ≤ h'.nx) (he : ∀ b, blkOf v = some b → h'.t.get b = h.t.get b) : RowV h' v n cs := by
 cases hr with
 | nil => exact .nil
 | opn b n m ty cs h0 hl hm hr =>
  obtain ⟨hlt, t, hg, ht⟩ := hr
  exact .opn b n m ty cs h0 hl hm ⟨by omega, t, by rw [he b rfl]; exact hg, ht⟩
 | exa b n c ty cs h0 hl hc hr =>
  obtain ⟨hlt, t, hg, ht⟩ := hr
  exact .exa b n c ty cs h0 hl hc ⟨by omega, t, by rw [he b rfl]; exact hg, ht⟩
theorem RowV.wr {h : H} {v : AV} {n : Nat} {cs : List AV} (hr : RowV h v n cs) {b : Nat} (hb : blkOf v = some b) : wrAt h b = true := by
 cases hr with
 | nil => cases hb
 | opn b n m ty cs h0 hl hm hr =>
  cases hb
  obtain ⟨hlt, t, hg, ht⟩ := hr
  unfold wrAt; rw [hg]
 | exa b n c ty cs h0 hl hc hr =>
  cases hb
  obtain ⟨hlt, t, hg, ht⟩ := hr
  unfold wrAt; rw [hg]
theorem RowB.sts {h : H} {b m ty o : Nat} {cs cs' : List AV} {l : List AV} (hr : RowB h b m 2 ty cs) (hl : cs'.length = cs.length) (he : ∀ j, j < cs.length → cs'[j]? = if o ≤ j ∧ j < o + l.length then l[j - o]? else cs[j]?) : RowB (h.sts b o l) b m 2 ty cs' := by
 obtain ⟨hlt, t, hg, ht⟩ := hr
 refine ⟨by rw [nx_sts]; exact hlt, AX.setL t o l, ?_, fun j hj => ?_⟩
 ·unfold H.sts; rw [hg]; simp only [T.get_set, if_pos]
 ·have := cellAt_sts (h := h) (b := b) (o := o) (l := l) (by unfold wrAt; rw [hg]) b j
  have e : cellAt (h.sts b o l) b j = (AX.setL t o l).get j:= by unfold cellAt H.sts; rw [hg]; simp only [T.get_set, if_pos]
  have e2 : cellAt h b j = t.get j:= by unfold cellAt; rw [hg]
  rw [← e, this, e2, he j (by omega), ht j (by omega)]
  by_cases q : o ≤ j ∧ j < o + l.length
  ·rw [if_pos ⟨rfl, q⟩, if_pos q]
  ·rw [if_neg (fun e => q e.2), if_neg q]
theorem RowV.sts {h : H} {v : AV} {n b o : Nat} {cs cs' : List AV} {l : List AV} (hr : RowV h v n cs) (hb : blkOf v = some b) (hl : cs'.length = cs.length) (he : ∀ j, j < cs.length → cs'[j]? = if o ≤ j ∧ j < o + l.length then l[j - o]? else cs[j]?) : RowV (h.sts b o l) v n cs' := by
 cases hr with
 | nil => cases hb
 | opn b n m ty cs h0 hl' hm hr => cases hb; exact .opn b n m ty cs' h0 (by omega) hm (RowB.sts hr hl he)
 | exa b n c ty cs h0 hl' hc hr => cases hb; exact .exa b n c ty cs' h0 (by omega) hc (RowB.sts hr hl he)
structure IxO (N : Nat → Prop) (h : H) (b : Nat) (R : List Pr) (s : AV) : Prop where
 ix : IxAt N h b R s
 rw : RowV h s R.length (prsC R)
 wr : wrAt h b = true
 ne : blkOf s ≠ some b
def opnV : AV → Bool
 | .slice _ _ _ (.opn _) => true
 | _ => false
structure IxR (N : Nat → Prop) (h : H) (b : Nat) (R : List Pr) (s : AV) : Prop extends IxO N h b R s where
 ex : opnV s = false
def rowL (s : AV) : List Nat := match blkOf s with | some c => [c] | none => []
def setI (k : List Nat) (L : List W.Gn) (v : AV) (R : List Pr) : List Pr := if isK k R then R.set (atK k R) ⟨k, L, v⟩ else R.take (atK k R) ++ ⟨k, L, v⟩ :: R.drop (atK k R)
theorem prsC_take : ∀ (R : List Pr) (i : Nat), (prsC R).take (i * 2) = prsC (R.take i)
 | [], i => by simp [prsC]
 | p :: R, 0 => by simp [prsC]
 | p :: R, i + 1 => by
  have := prsC_take R i
  unfold prsC at this ⊢
  rw [List.flatMap_cons, List.take_succ_cons, List.flatMap_cons, ← this, Nat.add_mul, Nat.one_mul]
  rfl
theorem prsC_drop : ∀ (R : List Pr) (i : Nat), (prsC R).drop (i * 2) = prsC (R.drop i)
 | [], i => by simp [prsC]
 | p :: R, 0 => by simp [prsC]
 | p :: R, i + 1 => by
  have := prsC_drop R i
  unfold prsC at this ⊢
  rw [List.flatMap_cons, List.drop_succ_cons, ← this, Nat.add_mul, Nat.one_mul]
  rfl
theorem insL_prs (R : List Pr) (i : Nat) (p : Pr) : insL (prsC R) i (.str p.key) p.v = prsC (R.take i ++ p :: R.drop i) := by
 unfold insL
 rw [prsC_take, prsC_drop]
 simp [prsC, prC]
theorem prs_set : ∀ (R : List Pr) (i : Nat) (p : Pr) (L : List W.Gn) (g : AV), R[i]? = some p → ∀ j, (prsC (R.set i ⟨p.key, L, g⟩))[j]? = if i * 2 + 1 ≤ j ∧ j < i * 2 + 1 + 1 then [g][j - (i * 2 + 1)]? else (prsC R)[j]?
 | [], i, p, L, g, h, j => by simp at h
 | q :: R, 0, p, L, g, h, j => by
  simp at h; subst h
  match j with
  | 0 => simp [prsC, prC]
  | 1 => simp [prsC, prC]
  | j + 2 => rw [if_neg (by omega)]; simp [prsC, prC]
 | q :: R, i + 1, p, L, g, h, j => by
  have ih := prs_set R i p L g (by simpa using h)
  match j with
  | 0 => rw [if_neg (by omega)]; simp [prsC, prC]
  | 1 => rw [if_neg (by omega)]; simp [prsC, prC]
  | j + 2 =>
   have := ih j
   have e : ∀ (q : Pr) (R : List Pr), (prsC (q :: R))[j + 2]? = (prsC R)[j]? := fun q R => by simp [prsC, prC]
   rw [List.set_cons_succ, e, e, this]
   by_cases c : i * 2 + 1 ≤ j ∧ j < i * 2 + 1 + 1
   ·rw [if_pos c, if_pos (by omega), show j + 2 - ((i + 1) * 2 + 1) = j - (i * 2 + 1) by omega]
   ·rw [if_neg c, if_neg (by omega)]
theorem prsC_leng (R : List Pr) : (prsC R).length = R.length * 2 := W.flat_len prC 2 prC_len R
theorem RowV.off {h : H} {b o n m : Nat} {cap : Cap} {cs : List AV} (hr : RowV h (.slice b o m cap) n cs) : o = 0:= by cases hr <;> rfl
theorem srt_set {R : List Pr} {i : Nat} {p q : Pr} (hs : Srt R) (hp : R[i]? = some p) (hk : q.key = p.key) : Srt (R.set i q) := by
 unfold Srt at *
 have e : (R.set i q).map (·.key) = R.map (·.key) := by
  rw [List.map_set]
  apply List.ext_getElem?
  intro j
  rw [List.getElem?_set]
  split
  ·rename_i e; subst e
   rw [List.getElem?_map, hp]
   split
   ·simp [hk]
   ·rename_i h; simp at h
    have := (List.getElem?_eq_some_iff.1 hp).1; omega
  ·rfl
 have a : (R.map (·.key)).Pairwise fun a b => listLtB a b = true := List.pairwise_map.2 hs
 rw [← e] at a
 exact List.pairwise_map.1 a
theorem srt_ins {R : List Pr} {k : List Nat} {p : Pr} (hs : Srt R) (hq : isK k R = false) (hk : p.key = k) : Srt (R.take (atK k R) ++ p :: R.drop (atK k R)) := by
 have hs' := hs
 unfold Srt at hs ⊢
 have h1 : ∀ x, x ∈ R.take (atK k R) → listLtB x.key k = true := fun x hx => by
  obtain ⟨i, e⟩ := List.getElem?_of_mem hx
  rw [List.getElem?_take] at e
  split at e
  ·exact (at_iff hs' e).2 (by assumption)
  ·cases e
 have h2 : ∀ x, x ∈ R.drop (atK k R) → listLtB k x.key = true := fun x hx => by
  obtain ⟨i, e⟩ := List.getElem?_of_mem hx
  rw [List.getElem?_drop] at e
  have n1 : ¬ listLtB x.key k = true := fun q => by have := (at_iff hs' e).1 q; omega
  rcases lt_tri x.key k with q | q | q
  ·exact absurd q n1
  ·exfalso
   match i, e with
   | 0, e =>
    unfold isK at hq
    rw [Nat.add_zero] at e
    rw [e] at hq
    simp [q] at hq
   | i + 1, e =>
    have hlt := (List.getElem?_eq_some_iff.1 e).1
    obtain ⟨y, hy⟩ : ∃ y, R[atK k R]? = some y := ⟨_, List.getElem?_eq_getElem (by omega)⟩
    have n2 : ¬ listLtB y.key k = true := fun q => by have := (at_iff hs' hy).1 q; omega
    obtain ⟨a1, a2⟩ := List.getElem?_eq_some_iff.1 hy
    obtain ⟨b1, b2⟩ := List.getElem?_eq_some_iff.1 e
    have := List.pairwise_iff_getElem.1 hs _ _ a1 b1 (by omega)
    rw [a2, b2, q] at this
    exact n2 this
  ·exact q
 rw [List.pairwise_append, List.pairwise_cons]
 refine ⟨hs.sublist (List.take_sublist _ _), ⟨fun x hx => by rw [hk]; exact h2 x hx, hs.sublist (List.drop_sublist _ _)⟩, fun x hx y hy => ?_⟩
 rcases List.mem_cons.1 hy with e | e
 ·rw [e, hk]; exact h1 x hx
 ·exact lt_trans (h1 x hx) (h2 y e)
theorem prs_one {R : List Pr} (h : ∀ p, p ∈ R → p.v.one = true) : allOne (prsC R) = true := allOne_iff.2 fun v hv => by
 unfold prsC at hv
 obtain ⟨p, hp, hv⟩ := List.mem_flatMap.1 hv
 unfold prC at hv
 rcases List.mem_cons.1 hv with e | e
 ·rw [e]; rfl
 ·rw [List.mem_singleton.1 e]; exact h p hp
theorem setC0 (h : H) (b : Nat) (k : List Nat) (L : List W.Gn) (g : AV) (R : List Pr) (s : AV) (hx : IxO N h b R s) (hg : W.GensP (offI N b s) h (.agg [g]) L) (hz : R.length < 100000) :
  PushC P (.enter 48 [.ptr b 0, .str k, .agg [g]] h) fun v h' => v = .tuple [] ∧ ∃ s', Only h h' (b :: rowL s) ∧ (∀ c, blkOf s' = some c → blkOf s = some c ∨ h.nx ≤ c) ∧ IxO N h' b (setI k L g R) s' := by
 have c0 := hx.ix.c0
 have hwr := hx.wr
 have hso := W.SliceAt.one hx.ix.sl
 have hlt := hx.ix.lt
 obtain ⟨_, e, hgo, hgc⟩ := hg.val
 cases e
 refine pushC_of_codeW (fn := Tryz.f48) (c := bodyC Tryz.f48) Tryz.func48 rfl ?_
 show codeW P 48 36 none _ _ _ _ _
 refine codeW_root ?_
 refine rT ?_ (V c0<|V hso<|V hgo<|hgc)
 obtain ⟨h1, h1e⟩ : ∃ h1, h1 = h.newCells 55 [g] := ⟨_, rfl⟩
 have o1 : Only h h1 []:= by rw [h1e]; exact (Only.refl _ _).new _ _
 have x1 : h1.nx = h.nx + 1:= by rw [h1e]; rfl
 have z0 : cellAt h1 h.nx 0 = some g:= by rw [h1e]; exact sT
 have zw : wrAt h1 h.nx = true:= by rw [h1e]; exact sT
 have hx1 := hx.ix.keep o1
 rw [← h1e]
 refine ((findC h1 b k R s hx1).call P).mono P ?_
 rintro v h2 ⟨rfl, o2⟩
 have hx2 := hx1.keep o2
 have c2 := hx2.c0
 have oo := o1.t o2
 have xo2 := o2.1
 have z2 := W.kcell z0 o2 (by omega) (by simp)
 have w2 := W.kwr zw o2 (by omega) (by simp)
 have wb2 := W.kwr hwr oo (by omega) (by simp)
 cases q : isK k R with
 | true =>
  have hat : atK k R < R.length := by
   unfold isK at q
   split at q
   ·rename_i p hp; exact (List.getElem?_eq_some_iff.1 hp).1
   ·cases q
  obtain ⟨p, hp⟩ : ∃ p, R[atK k R]? = some p := ⟨_, List.getElem?_eq_getElem hat⟩
  have hk : p.key = k:= by unfold isK at q; rw [hp] at q; simpa using q
  have lt1 : (atK k R < R.length) = True:= by simp [hat]
  obtain ⟨bl, o, cap, rfl, hb, -⟩ := hx.ix.sl.place (by omega)
  obtain rfl : o = 0 := hx.rw.off
  have p1 := (prC_at hx2.sl hp).2
  rw [Nat.zero_add] at p1
  have hr2 := hx.rw.keep oo.1 (fun c q => oo.2 c (hx.ix.sl.blk c q) (by simp))
  have wl := hr2.wr rfl
  obtain ⟨h3, h3e⟩ : ∃ h3, h3 = h2.sts bl (atK k R * 2 + 1) [g] := ⟨_, rfl⟩
  have hbb : b ≠ bl := fun e => hx.ne (by rw [e]; rfl)
  have o3 : Only h h3 (b :: [bl]):= by rw [h3e]; exact Only.sts ⟨oo.1, fun c hc _ => oo.2 c hc (by simp)⟩ (.inl (by simp))
  have hs : setI k L g R = R.set (atK k R) ⟨p.key, L, g⟩:= by unfold setI; rw [if_pos q, hk]
  have hfin : IxO N h3 b (R.set (atK k R) ⟨p.key, L, g⟩) (.slice bl 0 R.length cap) := by
   have hr3 : RowV h3 (.slice bl 0 R.length cap) R.length (prsC (R.set (atK k R) ⟨p.key, L, g⟩)) := by
    rw [h3e]
    refine hr2.sts rfl (by rw [prsC_leng, prsC_leng, List.length_set]) (fun j hj => ?_)
    exact prs_set R (atK k R) p L g hp j
   have o4 : Only h h3 [bl]:= by rw [h3e]; exact Only.sts ⟨oo.1, fun c hc _ => oo.2 c hc (by simp)⟩ (.inl (by simp))
   have hoff : ∀ c, c ∈ [bl] → ¬ offI N b (.slice bl 0 R.length cap) c := fun c q e => by
    simp at q; subst q; exact e.2 rfl
   refine ⟨⟨by rw [h3e, nx_sts]; omega, W.kcell hx.ix.c0 o4 hlt (by simp [hbb]), ?_, fun x hxm => ?_, srt_set hx.ix.sr hp rfl, by rw [List.length_set]; exact hx.ix.zz, fun c hc => hx.ix.fl c (by rw [h3e, nx_sts] at hc; omega)⟩, ?_, W.kwr hwr o4 hlt (by simp [hbb]), hx.ne⟩
   ·rw [List.length_set]; exact hr3.slice
   ·rcases List.mem_or_eq_of_mem_set hxm with e | e
    ·exact (hx.ix.gg x e).keep o4 hoff
    ·subst e; exact hg.keep o4 hoff
   ·rw [List.length_set]; exact hr3
  refine rT ?_ (V c2<|V lt1<|V z2<|V w2<|V wb2<|V p1<|V wl<|V hgo<|V hgc<|V @put_sts<|h3e.symm)
  exact ⟨rfl, _, o3, fun c q => .inl q, by rw [hs]; exact hfin⟩
 | false =>
  have hbn : (b = h2.nx) = False:= by simp; omega
  refine rT ?_ (V c2<|V z2<|V w2<|V wb2<|V hgo<|V hgc<|hbn)
  obtain ⟨h3, h3e⟩ : ∃ h3, h3 = h2.newCells 75 [.str k, g] := ⟨_, rfl⟩
  have x3 : h3.nx = h2.nx + 1:= by rw [h3e]; rfl
  have o3 : Only h h3 []:= by rw [h3e]; exact oo.new _ _
  have hv3 : One h3 h2.nx (.str k) g := ⟨by omega, ⟨_, _, by rw [h3e]; unfold H.newCells H.alloc; simp only [T.get_set, if_pos]; rfl⟩, by rw [h3e, cellAt_new, if_pos rfl]; rfl, by rw [h3e, cellAt_new, if_pos rfl]; rfl, rfl, hgo⟩
  have hr3 := hx.rw.keep o3.1 (fun c q => o3.2 c (hx.ix.sl.blk c q) (by simp))
  have hne3 : blkOf s ≠ some h2.nx := fun e => by have := hx.ix.sl.blk _ e; omega
  rw [← h3e]
  refine ((insC h3 s R.length (atK k R) h2.nx (prsC R) (.str k) g hr3 (prs_one hx.ix.one) (atK_le _ _) hv3 hne3 (by omega)).call P).mono P ?_
  rintro v h4 ⟨p1, p2, p3, p4, p5⟩
  have hp := insL_prs R (atK k R) ⟨k, L, g⟩
  rw [hp] at p2
  have hvo := W.SliceAt.one p2.slice
  have hvc := W.SliceAt.cells p2.slice
  have g4 : ∀ c, c < h.nx → blkOf s ≠ some c → h4.t.get c = h.t.get c := fun c hc hn => by rw [p3 c (by omega) hn]; exact o3.2 c hc (by simp)
  have hbs := hx.ne
  have gb := g4 b hlt hbs
  have cb4 : cellAt h4 b 0 = some s:= by rw [cellAt_of_get gb]; exact c0
  have wb4 : wrAt h4 b = true:= by rw [← hwr]; unfold wrAt; rw [gb]
  have hs : setI k L g R = R.take (atK k R) ++ ⟨k, L, g⟩ :: R.drop (atK k R):= by unfold setI; rw [if_neg (by rw [q]; simp)]
  have hln : (R.take (atK k R) ++ (⟨k, L, g⟩ : Pr) :: R.drop (atK k R)).length = R.length + 1:= by have := atK_le k R; simp; omega
  have hvb : ∀ c, blkOf v = some c → c ≠ b := fun c q e => by
   subst e
   rcases p4 c q with q1 | q1
   ·exact hbs q1
   ·omega
  have mrow : ∀ c, c ∉ rowL s → blkOf s ≠ some c := fun c hc e => hc (by unfold rowL; rw [e]; simp)
  obtain ⟨h5, h5e⟩ : ∃ h5, h5 = h4.sts b 0 [v] := ⟨_, rfl⟩
  have o5 : Only h h5 (b :: rowL s):= by rw [h5e]; exact Only.sts ⟨by omega, fun c hc hn => g4 c hc (mrow c (fun e => hn (List.mem_cons_of_mem _ e)))⟩ (.inl (by simp))
  have hoff : ∀ c, c ∈ b :: rowL s → ¬ (offI N b s c ∧ offI N b v c) := fun c hc e => by
   rcases List.mem_cons.1 hc with q1 | q1
   ·exact e.1.1 q1
   ·unfold rowL at q1
    split at q1
    ·rename_i c' q2
     rw [List.mem_singleton.1 q1] at e
     exact e.1.2 q2
    ·cases q1
  have hgen : ∀ (y : AV) (M : List W.Gn), W.GensP (offI N b s) h y M → W.GensP (offI N b v) h5 y M := fun y M gy =>
   ((gy.mono (q := fun c => offI N b s c ∧ offI N b v c) fun c hc e => ⟨e, e.1, (fun q1 => by
    rcases p4 c q1 with q2 | q2
    ·exact e.2 q2
    ·omega), e.fl⟩).keep o5 hoff).mono fun c _ e => e.2
  have hr5 : RowV h5 v (R.length + 1) (prsC (R.take (atK k R) ++ ⟨k, L, g⟩ :: R.drop (atK k R))) := by
   refine p2.keep (by rw [h5e, nx_sts]; exact Nat.le_refl _) (fun c q1 => ?_)
   rw [h5e, get_sts _ _ _ _ (hvb c q1)]
  have hfin : IxO N h5 b (R.take (atK k R) ++ ⟨k, L, g⟩ :: R.drop (atK k R)) v := by
   refine ⟨⟨by rw [h5e, nx_sts]; omega, by rw [h5e, cellAt_sts wb4]; simp, by rw [hln]; exact hr5.slice, fun x hxm => ?_, srt_ins hx.ix.sr q rfl, by rw [hln]; omega, fun c hc => hx.ix.fl c (by rw [h5e, nx_sts] at hc; omega)⟩, by rw [hln]; exact hr5, by rw [h5e, wrAt_sts]; exact wb4, fun e => hvb b e rfl⟩
   rcases List.mem_append.1 hxm with e | e
   ·exact hgen _ _ (hx.ix.gg x (List.mem_of_mem_take e))
   ·rcases List.mem_cons.1 e with e | e
    ·subst e; exact hgen _ _ hg
    ·exact hgen _ _ (hx.ix.gg x (List.mem_of_mem_drop e))
  refine rT ?_ (V cb4<|V wb4<|V hvo<|V hvc<|V @put_sts<|h5e.symm)
  rw [retK_norm]
  exact ⟨h5, rfl, .tuple [], rfl, rfl, _, o5, fun c q1 => (p4 c q1).imp id (fun q2 => by omega), by rw [hs]; exact hfin⟩
def Nb (h : H) (s s' : AV) : Prop := ∀ c, blkOf s' = some c → blkOf s = some c ∨ h.nx ≤ c
theorem Nb.from {h h1 : H} {s s' : AV} (n : Nb h1 s s') (hx : h.nx ≤ h1.nx) : Nb h s s' := fun c e => (n c e).imp id (fun q => Nat.le_trans hx q)
theorem setC (h : H) (b : Nat) (k : List Nat) (L : List W.Gn) (g : AV) (R : List Pr) (s : AV) (hx : IxR N h b R s) (hg : W.GensP (offI N b s) h (.agg [g]) L) (hz : R.length < 100000) :
  PushC P (.enter 48 [.ptr b 0, .str k, .agg [g]] h) fun v h' => v = .tuple [] ∧ ∃ s', Only h h' (b :: rowL s) ∧ Nb h s s' ∧ IxR N h' b (setI k L g R) s' := by
 refine (setC0 h b k L g R s hx.toIxO hg hz).cellOpen ?_
 rintro v h1 ⟨rfl, s1, o1, hbk, hx1⟩
 obtain ⟨R1, hR1⟩ : ∃ R1, R1 = setI k L g R := ⟨_, rfl⟩
 rw [← hR1] at hx1 ⊢
 cases q : opnV s1 with
 | false => exact .inl ⟨rfl, s1, o1, hbk, hx1, q⟩
 | true =>
  refine .inr ?_
  obtain ⟨⟨lt, c0, sl, gg, sr, zz, fl⟩, hrw, wr, ne⟩ := hx1
  obtain ⟨n, hn⟩ : ∃ n, n = R1.length := ⟨_, rfl⟩
  obtain ⟨cs, hcs⟩ : ∃ cs, cs = prsC R1 := ⟨_, rfl⟩
  rw [← hn, ← hcs] at hrw
  cases hrw with
  | nil => cases q
  | exa bl n c ty cs h0 hl hm hr => cases q
  | opn bl n m ty cs h0 hl hm hr =>
   obtain ⟨hlt, t, hg1, ht⟩ := hr
   have hwr := wr
   unfold wrAt at wr
   unfold cellAt at c0
   split at wr
   ·rename_i mb tb kb hgb
    rw [hgb] at c0
    simp only at c0
    have hne : b ≠ bl := fun e => ne (by rw [e]; rfl)
    refine ⟨b, 0, bl, n, mb, m, tb, t, kb, ⟨2, ty⟩, false, hgb, c0, hg1, (show 0 < 2 by omega), hne, hm, fun c h1c h2c => ?_⟩
    have h2c : m ≤ c * 2 := h2c
    have hget := cellOpen_get (j := 0) (n := n) (c := c) hgb hg1 hne
    obtain ⟨h2, h2e⟩ : ∃ h2, h2 = AX.cellOpen h1 b 0 bl n c := ⟨_, rfl⟩
    rw [← h2e] at hget ⊢
    have hx2 : h2.nx = h1.nx:= by rw [h2e]; exact cellOpen_nx _ _ _ _ _ _
    have o2 : Only h1 h2 [b, bl] := ⟨by omega, fun c' hc' hn' => by rw [hget, if_neg (fun e => hn' (by simp [e])), if_neg (fun e => hn' (by simp [e]))]⟩
    have hrow : RowV h2 (.slice bl 0 n (.exact c)) n cs := .exa bl n c ty cs h0 hl h1c ⟨by omega, t, by rw [hget, if_neg (fun e => hne e.symm), if_pos rfl], ht⟩
    refine ⟨rfl, .slice bl 0 n (.exact c), ⟨by have := o1.1; omega, fun c' hc' hn' => ?_⟩, fun c e => hbk c e, ⟨⟨⟨by omega, ?_, by rw [← hn, ← hcs]; exact hrow.slice, fun p hp => ?_, sr, zz, fun c hc => fl c (by omega)⟩, by rw [← hn, ← hcs]; exact hrow, ?_, ne⟩, rfl⟩⟩
    ·rw [hget, if_neg (fun e => hn' (by simp [e])), if_neg (fun e => ?_)]
     ·exact o1.2 c' hc' hn'
     ·subst e
      rcases hbk _ rfl with e | e
      ·exact hn' (by unfold rowL; rw [e]; simp)
      ·omega
    ·unfold cellAt; rw [hget, if_pos rfl]
     show T.get (T.set _ _ _) 0 = _
     rw [T.get_set, if_pos rfl]
    ·exact ((gg p hp).keep o2 (fun c' hc' e => by
      rcases List.mem_cons.1 hc' with e1 | e1
      ·exact e.1 e1
      ·rw [List.mem_singleton] at e1; exact e.2 (by rw [e1]; rfl))).mono fun c' _ e => ⟨e.nb, e.ns, e.fl⟩
    ·unfold wrAt; rw [hget, if_pos rfl]
   ·cases wr
end
end Go.Proofs.YtlkngpckibidlaaGreat.X

namespace Go.Proofs.YtlkngpckibidlaaGreat.X
open Go Go.AX
noncomputable section
set_option maxRecDepth 100000
variable {N : Nat → Prop}
theorem IxR.keep {h h' : H} {b : Nat} {R : List Pr} {s : AV} (hx : IxR N h b R s) (ho : Only h h' []) : IxR N h' b R s :=
 ⟨⟨hx.ix.keep ho, hx.rw.keep ho.1 (fun c q => ho.2 c (hx.ix.sl.blk c q) (by simp)), W.kwr hx.wr ho hx.ix.lt (by simp), hx.ne⟩, hx.ex⟩
theorem Only.trans0 {h h1 h2 : H} {S : List Nat} (a : Only h h1 []) (b : Only h1 h2 S) : Only h h2 S :=
 ⟨Nat.le_trans a.1 b.1, fun c hc hn => by rw [b.2 c (Nat.lt_of_lt_of_le hc a.1) hn, a.2 c hc (by simp)]⟩
theorem Only.wide {h h1 : H} {S : List Nat} (a : Only h h1 []) : Only h h1 S := ⟨a.1, fun c hc _ => a.2 c hc (by simp)⟩
def keyOk (k : List Nat) : Prop := k ≠ [] ∧ k.length ≤ 16
theorem changeBad (h : H) (b : Nat) (k : List Nat) (f : AV) (hf : f.one = true) (hk : ¬ keyOk k) : PushC P (.enter 16 [.ptr b 0, .str k, f] h) (W.Says h (W.errV 2)) := by
 by_cases q : k = []
 ·have d1 : decide (k = bytesOf { data := #[] }) = true := decide_eq_true q
  refine pushC_of_codeW (fn := Tryz.f16) (c := bodyC Tryz.f16) Tryz.func16 rfl ?_
  show codeW P 16 39 none _ _ _ _ _
  refine codeW_root ?_
  refine rT ?_ (V d1<|hf)
  exact ⟨rfl, Only.refl _ _⟩
 ·have d1 : decide (k = bytesOf { data := #[] }) = false := decide_eq_false q
  have d2 : decide (16 < k.length) = true := decide_eq_true (by have : ¬ k.length ≤ 16 := fun e => hk ⟨q, e⟩; omega)
  refine pushC_of_codeW (fn := Tryz.f16) (c := bodyC Tryz.f16) Tryz.func16 rfl ?_
  show codeW P 16 39 none _ _ _ _ _
  refine codeW_root ?_
  refine rT ?_ (V d1<|V d2<|hf)
  exact ⟨rfl, Only.refl _ _⟩
def PostCh (N : Nat → Prop) (h : H) (b : Nat) (k : List Nat) (R : List Pr) (s : AV) (L : List W.Gn) (e : Nat) (v : AV) (h' : H) : Prop :=
 v = W.errV e ∧ ∃ g s', Only h h' (b :: rowL s) ∧ Nb h s s' ∧ IxR N h' b (if e = 0 then setI k L g R else R) s'
theorem changeC (f : FuncId) (hf : enterOk P f = true) (caps : List AV) (h : H) (b : Nat) (k : List Nat) (R : List Pr) (s : AV) (L : List W.Gn) (e : Nat) (hx : IxR N h b R s) (hz : R.length < 100000) (hk : keyOk k)
  (hdo : ∀ h1 y, Only h h1 [] → W.GensP (offI N b s) h1 (.agg [y]) (getL k R) → PushC P (.enter f ([.agg [y]] ++ caps) h1) (W.PostE (offI N b s) h1 L e)) :
  PushC P (.enter 16 [.ptr b 0, .str k, .func f [] caps] h) (PostCh N h b k R s L e) := by
 have hlt := hx.ix.lt
 have cff := fun args h => callV_func (P := P) f hf [] caps args (h := h)
 have d1 : decide (k = bytesOf { data := #[] }) = false := decide_eq_false hk.1
 have d2 : decide (16 < k.length) = false := decide_eq_false (by have := hk.2; omega)
 refine pushC_of_codeW (fn := Tryz.f16) (c := bodyC Tryz.f16) Tryz.func16 rfl ?_
 show codeW P 16 39 none _ _ _ _ _
 refine codeW_root ?_
 refine rT ?_ (V d1<|d2)
 refine ((getC (offI N b s) h b k R s hx.ix hx.ix.gg).call P).mono P ?_
 rintro v h1 ⟨o1, g, rfl, hg, -⟩
 have hd := hdo h1 g o1 hg
 obtain ⟨_, e', hgo, hgc⟩ := hg.val
 cases e'
 repeat' (first | ((with_reducible refine st1 ?_); (conv => whnf); (with_reducible refine ⟨?_⟩)) | ((with_reducible refine st_dw ?_ rfl rfl ?_ ?_); exact rfl; kernel_rfl; (conv => arg 5; whnf); (conv => arg 3; whnf)) | ((with_reducible refine retW_intro rfl ?_); (conv => arg 2; whnf)) | ((with_reducible first | refine iB ?_ ?_ | refine gWt ?_ ?_ | refine gWf ?_ ?_ | refine gXt ?_ ?_ | refine gXf ?_ ?_) <;> intro hb <;> (try simp only [hb])) | ((with_reducible show drawI _ _ _ _ _ _ _ _ _); first | ((with_reducible refine kI_rd ?_ ?_); exact rfl) | ((with_reducible apply kI_rg); exact rfl; exact rfl) | ((with_reducible refine kI_cv ?_ ?_ ?_); exact rfl; kernel_rfl) | ((with_reducible apply kI_al); exact rfl; exact rfl) | ((with_reducible refine kI_ex ?_ ?_ ?_ ?_ ?_); exact rfl; kernel_rfl; exact rfl) | ((with_reducible apply kI_eg); exact rfl; kernel_rfl; exact rfl) | ((with_reducible refine kI_nl ?_ ?_))) | ((with_reducible show eOk _ _ _ _ _ _); first | (exact eok_nil) | (refine ke_rd ?_ ?_ ?_; exact rfl) | (apply ke_rg; exact rfl; exact rfl) | (refine ke_cv ?_ ?_ ?_ ?_; exact rfl; kernel_rfl) | (apply ke_fl; exact rfl) | (apply ke_al; exact rfl; exact rfl)) | ((with_reducible refine freshIs_new ?_); kernel_rfl) | (simp only [B, xB, F, reduceLT, reduceLeDiff, reduceEqDiff, reduceAdd, reduceMul, reduceSub, ↓reduceIte, eq_self, cff, hgo, hgc, List.nil_append, List.append_nil]))
 refine (hd.call P).mono P ?_
 rintro v h2 ⟨o2, g2, rfl, hg2⟩
 obtain ⟨y, e', hyo, hyc⟩ := hg2.val
 subst e'
 have hx2 := (hx.keep o1).keep o2
 unfold W.errV
 by_cases q : e = 0
 ·subst q
  have d3 : decide (0 = 0) = true := rfl
  refine rT ?_ (V hyo<|V hyc<|d3)
  obtain ⟨h3, h3e⟩ : ∃ h3, h3 = (h2.newCells 55 [.nilslice]).sts h2.nx 0 [y] := ⟨_, rfl⟩
  have o3 : Only h2 h3 []:= by rw [h3e]; exact ((Only.refl _ _).new _ _).sts (.inr (Nat.le_refl _))
  rw [← h3e]
  refine ((setC h3 b k L y R s (hx2.keep o3) (hg2.keep0 o3) hz).call P).mono P ?_
  rintro v h4 ⟨rfl, s', o4, nb, hx4⟩
  refine rT0 ?_
  exact ⟨rfl, y, s', Only.trans0 ((o1.t o2).t o3) o4, nb.from ((o1.t o2).t o3).1, hx4⟩
 ·have d3 : decide (e = 0) = false := decide_eq_false q
  refine rT ?_ (V hyo<|V hyc<|d3)
  have o3 : Only h2 ((h2.newCells 55 [.nilslice]).sts h2.nx 0 [y]) [] := ((Only.refl _ _).new _ _).sts (.inr (Nat.le_refl _))
  refine ⟨rfl, y, s, Only.wide ((o1.t o2).t o3), fun c e => .inl e, ?_⟩
  rw [if_neg q]
  exact hx2.keep o3
end
end Go.Proofs.YtlkngpckibidlaaGreat.X

namespace Go.Proofs.YtlkngpckibidlaaGreat.X
open Go Go.AX
noncomputable section
set_option maxRecDepth 100000
variable {N : Nat → Prop}
theorem put1C (p : Nat → Prop) (h : H) (c : Nat) (y : AV) (L : List W.Gn) (r : W.Rv) (c0 : cellAt h c 0 = some (.int .u64 (.ofNat r.1))) (c1 : cellAt h c 1 = some (.int .u64 (.ofNat r.2))) (hc : c < h.nx) (hp : ∀ b, h.nx ≤ b → p b) (hg : W.GensP p h (.agg [y]) L) (hz : W.Sz 900 L) :
  PushC P (.enter 17 ([.agg [y]] ++ [.ptr c 0]) h) (W.PostE p h (W.putP L r) (W.putE L r)) := by
 obtain ⟨_, e', hgo, hgc⟩ := hg.val
 cases e'
 show PushC P (.enter 17 [.agg [y], .ptr c 0] h) _
 have n0 : (c = h.nx) = False:= by simp; omega
 have n1 : (c = h.nx + 1) = False:= by simp; omega
 have n2 : (c = h.nx + 2) = False:= by simp; omega
 refine pushC_of_codeW (fn := Tryz.f17) (c := bodyC Tryz.f17) Tryz.func17 rfl ?_
 show codeW P 17 10 none _ _ _ _ _
 refine codeW_root ?_
 refine rN ?_ (V hgo<|V hgc<|V c0<|V c1<|V n0<|V n1<|n2)
 obtain ⟨h1, h1e⟩ : ∃ h1, h1 = (h.newCells 55 [y]).newCells 55 [.nilslice] := ⟨_, rfl⟩
 have o1 : Only h h1 []:= by rw [h1e]; exact ((Only.refl _ _).new _ _).new _ _
 have x1 : h1.nx = h.nx + 2:= by rw [h1e]; rfl
 have z1 : cellAt h1 (h.nx + 1) 0 = some .nilslice:= by rw [h1e]; exact sT
 have w1 : wrAt h1 (h.nx + 1) = true:= by rw [h1e]; exact sT
 rw [← h1e]
 have hg1 : W.GensP (fun b => p b ∧ b ≠ h.nx + 1) h1 (.agg [y]) L := (hg.mono (q := fun b => p b ∧ b ≠ h.nx + 1) fun b hb e => ⟨e, by omega⟩).keep0 o1
 refine ((W.PutC (fun b => p b ∧ b ≠ h.nx + 1) h1 (.agg [y]) L r (fun b hb => ⟨hp b (by omega), by omega⟩) hg1 hz).call P).mono P ?_
 rintro v h2 ⟨o2, g2, rfl, hg2⟩
 obtain ⟨z, e', hzo, hzc⟩ := hg2.val
 subst e'
 have xo2 := o2.1
 have z2 := W.kcell z1 o2 (by omega) (by simp)
 have w2 := W.kwr w1 o2 (by omega) (by simp)
 unfold W.errV
 refine rN ?_ (V hzo<|V hzc<|V z2<|w2)
 have o3 : Only h2 (h2.sts (h.nx + 1) 0 [z]) [h.nx + 1] := Only.sts (Only.refl _ _) (.inl (by simp))
 exact ⟨(o1.t o2).sts (.inr (by omega)), .agg [z], rfl, (hg2.keep o3 (fun c q e => by simp at q; exact e.2 q)).mono fun b _ e => e.1⟩
theorem IxPutC (h : H) (b : Nat) (k : List Nat) (R : List Pr) (s : AV) (r : W.Rv) (hx : IxR N h b R s) (hz : R.length < 100000) (hk : keyOk k) (hsz : W.Sz 900 (getL k R)) :
  PushC P (.enter 5 [.ptr b 0, .str k, W.rvA r] h) (PostCh N h b k R s (W.putP (getL k R) r) (W.putE (getL k R) r)) := by
 have hlt := hx.ix.lt
 unfold W.rvA W.rvC
 refine pushC_of_codeW (fn := Tryz.f5) (c := bodyC Tryz.f5) Tryz.func5 rfl ?_
 show codeW P 5 11 none _ _ _ _ _
 refine codeW_root ?_
 refine rN0 ?_
 obtain ⟨h1, h1e⟩ : ∃ h1, h1 = h.newCells 31 [.int .u64 (.ofNat r.1), .int .u64 (.ofNat r.2)] := ⟨_, rfl⟩
 have o1 : Only h h1 []:= by rw [h1e]; exact (Only.refl _ _).new _ _
 have x1 : h1.nx = h.nx + 1:= by rw [h1e]; rfl
 have z0 : cellAt h1 h.nx 0 = some (.int .u64 (.ofNat r.1)):= by rw [h1e]; exact sT
 have z1 : cellAt h1 h.nx 1 = some (.int .u64 (.ofNat r.2)):= by rw [h1e]; exact sT
 have xs : ∀ c, blkOf s = some c → c < h.nx := hx.ix.sl.blk
 rw [← h1e]
 refine ((changeC 17 (by kernel_rfl) [.ptr h.nx 0] h1 b k R s _ _ (hx.keep o1) hz hk fun h2 y o2 hg => put1C (offI N b s) h2 h.nx y _ r (W.kcell z0 o2 (by omega) (by simp)) (W.kcell z1 o2 (by omega) (by simp)) (by have := o2.1; omega) (fun c hc => ⟨(fun e => by have := o2.1; omega), (fun e => by have := o2.1; have := xs c e; omega), hx.ix.fl c (by have := o2.1; omega)⟩) hg hsz).call P).mono P ?_
 rintro v h3 ⟨rfl, g, s', o3, nb, hx3⟩
 refine rN0 ?_
 exact ⟨rfl, g, s', Only.trans0 o1 o3, nb.from o1.1, hx3⟩
theorem tomb1C (p : Nat → Prop) (h : H) (c : Nat) (y : AV) (L : List W.Gn) (r : W.Rv) (c0 : cellAt h c 0 = some (.int .u64 (.ofNat r.1))) (c1 : cellAt h c 1 = some (.int .u64 (.ofNat r.2))) (hc : c < h.nx) (hp : ∀ b, h.nx ≤ b → p b) (hg : W.GensP p h (.agg [y]) L) (hz : W.Sz 900 L) (hq : W.Opq L) :
  PushC P (.enter 23 ([.agg [y]] ++ [.ptr c 0]) h) (W.PostE p h (W.tombP L r) (W.tombE L r)) := by
 obtain ⟨_, e', hgo, hgc⟩ := hg.val
 cases e'
 show PushC P (.enter 23 [.agg [y], .ptr c 0] h) _
 have n0 : (c = h.nx) = False:= by simp; omega
 have n1 : (c = h.nx + 1) = False:= by simp; omega
 have n2 : (c = h.nx + 2) = False:= by simp; omega
 refine pushC_of_codeW (fn := Tryz.f23) (c := bodyC Tryz.f23) Tryz.func23 rfl ?_
 show codeW P 23 10 none _ _ _ _ _
 refine codeW_root ?_
 refine rN ?_ (V hgo<|V hgc<|V c0<|V c1<|V n0<|V n1<|n2)
 obtain ⟨h1, h1e⟩ : ∃ h1, h1 = (h.newCells 55 [y]).newCells 55 [.nilslice] := ⟨_, rfl⟩
 have o1 : Only h h1 []:= by rw [h1e]; exact ((Only.refl _ _).new _ _).new _ _
 have x1 : h1.nx = h.nx + 2:= by rw [h1e]; rfl
 have z1 : cellAt h1 (h.nx + 1) 0 = some .nilslice:= by rw [h1e]; exact sT
 have w1 : wrAt h1 (h.nx + 1) = true:= by rw [h1e]; exact sT
 rw [← h1e]
 have hg1 : W.GensP (fun b => p b ∧ b ≠ h.nx + 1) h1 (.agg [y]) L := (hg.mono (q := fun b => p b ∧ b ≠ h.nx + 1) fun b hb e => ⟨e, by omega⟩).keep0 o1
 refine ((W.TombC (fun b => p b ∧ b ≠ h.nx + 1) h1 (.agg [y]) L r (fun b hb => ⟨hp b (by omega), by omega⟩) hg1 hz hq).call P).mono P ?_
 rintro v h2 ⟨o2, g2, rfl, hg2⟩
 obtain ⟨z, e', hzo, hzc⟩ := hg2.val
 subst e'
 have xo2 := o2.1
 have z2 := W.kcell z1 o2 (by omega) (by simp)
 have w2 := W.kwr w1 o2 (by omega) (by simp)
 unfold W.errV
 refine rN ?_ (V hzo<|V hzc<|V z2<|w2)
 have o3 : Only h2 (h2.sts (h.nx + 1) 0 [z]) [h.nx + 1] := Only.sts (Only.refl _ _) (.inl (by simp))
 exact ⟨(o1.t o2).sts (.inr (by omega)), .agg [z], rfl, (hg2.keep o3 (fun c q e => by simp at q; exact e.2 q)).mono fun b _ e => e.1⟩
theorem IxTombC (h : H) (b : Nat) (k : List Nat) (R : List Pr) (s : AV) (r : W.Rv) (hx : IxR N h b R s) (hz : R.length < 100000) (hk : keyOk k) (hsz : W.Sz 900 (getL k R)) (hq : W.Opq (getL k R)) :
  PushC P (.enter 7 [.ptr b 0, .str k, W.rvA r] h) (PostCh N h b k R s (W.tombP (getL k R) r) (W.tombE (getL k R) r)) := by
 have hlt := hx.ix.lt
 unfold W.rvA W.rvC
 refine pushC_of_codeW (fn := Tryz.f7) (c := bodyC Tryz.f7) Tryz.func7 rfl ?_
 show codeW P 7 11 none _ _ _ _ _
 refine codeW_root ?_
 refine rN0 ?_
 obtain ⟨h1, h1e⟩ : ∃ h1, h1 = h.newCells 31 [.int .u64 (.ofNat r.1), .int .u64 (.ofNat r.2)] := ⟨_, rfl⟩
 have o1 : Only h h1 []:= by rw [h1e]; exact (Only.refl _ _).new _ _
 have x1 : h1.nx = h.nx + 1:= by rw [h1e]; rfl
 have z0 : cellAt h1 h.nx 0 = some (.int .u64 (.ofNat r.1)):= by rw [h1e]; exact sT
 have z1 : cellAt h1 h.nx 1 = some (.int .u64 (.ofNat r.2)):= by rw [h1e]; exact sT
 have xs : ∀ c, blkOf s = some c → c < h.nx := hx.ix.sl.blk
 rw [← h1e]
 refine ((changeC 23 (by kernel_rfl) [.ptr h.nx 0] h1 b k R s _ _ (hx.keep o1) hz hk fun h2 y o2 hg => tomb1C (offI N b s) h2 h.nx y _ r (W.kcell z0 o2 (by omega) (by simp)) (W.kcell z1 o2 (by omega) (by simp)) (by have := o2.1; omega) (fun c hc => ⟨(fun e => by have := o2.1; omega), (fun e => by have := o2.1; have := xs c e; omega), hx.ix.fl c (by have := o2.1; omega)⟩) hg hsz hq).call P).mono P ?_
 rintro v h3 ⟨rfl, g, s', o3, nb, hx3⟩
 refine rN0 ?_
 exact ⟨rfl, g, s', Only.trans0 o1 o3, nb.from o1.1, hx3⟩
end
end Go.Proofs.YtlkngpckibidlaaGreat.X

namespace Go.Proofs.YtlkngpckibidlaaGreat.X
open Go Go.AX
noncomputable section
set_option maxRecDepth 100000
variable {N : Nat → Prop}
structure Rc where
 rev : W.Rv
 key : List Nat
 val : List Nat
 create : Nat
 mod : Nat
 version : Nat
 tomb : Bool
def rcC (r : Rc) : List AV := [.int .u64 (.ofNat r.rev.1), .int .u64 (.ofNat r.rev.2), .str r.key, .str r.val, .int .u64 (.ofNat r.create), .int .u64 (.ofNat r.mod), .int .u64 (.ofNat r.version), .bool r.tomb]
def rcA (r : Rc) : AV := .agg (rcC r)
theorem rest1C (p : Nat → Prop) (h : H) (c : Nat) (y : AV) (L : List W.Gn) (r : Rc) (hcs : ∀ i, i < 8 → cellAt h c i = (rcC r)[i]?) (hc : c < h.nx) (hp : ∀ b, h.nx ≤ b → p b) (hg : W.GensP p h (.agg [y]) L) (hz : W.Sz 900 L) :
  PushC P (.enter 26 ([.agg [y]] ++ [.ptr c 0]) h) (W.PostE p h (W.restP L r.rev r.create r.version) (W.restE L r.rev r.create r.version)) := by
 obtain ⟨_, e', hgo, hgc⟩ := hg.val
 cases e'
 show PushC P (.enter 26 [.agg [y], .ptr c 0] h) _
 have c0 : cellAt h c 0 = some (.int .u64 (.ofNat r.rev.1)) := hcs 0 (by omega)
 have c1 : cellAt h c 1 = some (.int .u64 (.ofNat r.rev.2)) := hcs 1 (by omega)
 have c4 : cellAt h c 4 = some (.int .u64 (.ofNat r.create)) := hcs 4 (by omega)
 have c6 : cellAt h c 6 = some (.int .u64 (.ofNat r.version)) := hcs 6 (by omega)
 have n0 : (c = h.nx) = False:= by simp; omega
 have n1 : (c = h.nx + 1) = False:= by simp; omega
 have n2 : (c = h.nx + 2) = False:= by simp; omega
 refine pushC_of_codeW (fn := Tryz.f26) (c := bodyC Tryz.f26) Tryz.func26 rfl ?_
 show codeW P 26 17 none _ _ _ _ _
 refine codeW_root ?_
 refine rN ?_ (V hgo<|V hgc<|V c0<|V c1<|V c4<|V c6<|V n0<|V n1<|n2)
 obtain ⟨h1, h1e⟩ : ∃ h1, h1 = (h.newCells 55 [y]).newCells 55 [.nilslice] := ⟨_, rfl⟩
 have o1 : Only h h1 []:= by rw [h1e]; exact ((Only.refl _ _).new _ _).new _ _
 have x1 : h1.nx = h.nx + 2:= by rw [h1e]; rfl
 have z1 : cellAt h1 (h.nx + 1) 0 = some .nilslice:= by rw [h1e]; exact sT
 have w1 : wrAt h1 (h.nx + 1) = true:= by rw [h1e]; exact sT
 rw [← h1e]
 have hg1 : W.GensP (fun b => p b ∧ b ≠ h.nx + 1) h1 (.agg [y]) L := (hg.mono (q := fun b => p b ∧ b ≠ h.nx + 1) fun b hb e => ⟨e, by omega⟩).keep0 o1
 refine ((W.RestC (fun b => p b ∧ b ≠ h.nx + 1) h1 (.agg [y]) L r.rev r.create r.version (fun b hb => ⟨hp b (by omega), by omega⟩) hg1 hz).call P).mono P ?_
 rintro v h2 ⟨o2, g2, rfl, hg2⟩
 obtain ⟨z, e', hzo, hzc⟩ := hg2.val
 subst e'
 have xo2 := o2.1
 have z2 := W.kcell z1 o2 (by omega) (by simp)
 have w2 := W.kwr w1 o2 (by omega) (by simp)
 unfold W.errV
 refine rN ?_ (V hzo<|V hzc<|V z2<|w2)
 have o3 : Only h2 (h2.sts (h.nx + 1) 0 [z]) [h.nx + 1] := Only.sts (Only.refl _ _) (.inl (by simp))
 exact ⟨(o1.t o2).sts (.inr (by omega)), .agg [z], rfl, (hg2.keep o3 (fun c q e => by simp at q; exact e.2 q)).mono fun b _ e => e.1⟩
theorem IxRestC (h : H) (b : Nat) (R : List Pr) (s : AV) (r : Rc) (hx : IxR N h b R s) (hz : R.length < 100000) (hk : keyOk r.key) (hsz : W.Sz 900 (getL r.key R)) (ht : r.tomb = false) :
  PushC P (.enter 9 [.ptr b 0, rcA r] h) (PostCh N h b r.key R s (W.restP (getL r.key R) r.rev r.create r.version) (W.restE (getL r.key R) r.rev r.create r.version)) := by
 have hlt := hx.ix.lt
 unfold rcA rcC
 refine pushC_of_codeW (fn := Tryz.f9) (c := bodyC Tryz.f9) Tryz.func9 rfl ?_
 show codeW P 9 24 none _ _ _ _ _
 refine codeW_root ?_
 refine rN ?_ (ht)
 obtain ⟨h1, h1e⟩ : ∃ h1, h1 = h.newCells 39 (rcC r) := ⟨_, rfl⟩
 have o1 : Only h h1 []:= by rw [h1e]; exact (Only.refl _ _).new _ _
 have x1 : h1.nx = h.nx + 1:= by rw [h1e]; rfl
 have z0 : ∀ i, i < 8 → cellAt h1 h.nx i = (rcC r)[i]? := fun i hi => by rw [h1e, cellAt_new, if_pos rfl]
 have xs : ∀ c, blkOf s = some c → c < h.nx := hx.ix.sl.blk
 have h1e' := h1e
 unfold rcC at h1e'
 rw [ht] at h1e'
 rw [← h1e']
 refine ((changeC 26 (by kernel_rfl) [.ptr h.nx 0] h1 b r.key R s _ _ (hx.keep o1) hz hk fun h2 y o2 hg => rest1C (offI N b s) h2 h.nx y _ r (fun i hi => W.kcell (z0 i hi) o2 (by omega) (by simp)) (by have := o2.1; omega) (fun c hc => ⟨(fun e => by have := o2.1; omega), (fun e => by have := o2.1; have := xs c e; omega), hx.ix.fl c (by have := o2.1; omega)⟩) hg hsz).call P).mono P ?_
 rintro v h3 ⟨rfl, g, s', o3, nb, hx3⟩
 refine rN0 ?_
 exact ⟨rfl, g, s', Only.trans0 o1 o3, nb.from o1.1, hx3⟩
theorem IxRestT (h : H) (b : Nat) (R : List Pr) (s : AV) (r : Rc) (hx : IxR N h b R s) (hz : R.length < 100000) (hk : keyOk r.key) (hsz : W.Sz 900 (getL r.key R)) (hq : W.Opq (getL r.key R)) (ht : r.tomb = true) :
  PushC P (.enter 9 [.ptr b 0, rcA r] h) fun v h' => v = W.errV (if W.tombE (getL r.key R) r.rev = 5 then 0 else W.tombE (getL r.key R) r.rev) ∧
   ∃ g s', Only h h' (b :: rowL s) ∧ Nb h s s' ∧ IxR N h' b (if W.tombE (getL r.key R) r.rev = 0 then setI r.key (W.tombP (getL r.key R) r.rev) g R else R) s' := by
 have hlt := hx.ix.lt
 unfold rcA rcC
 refine pushC_of_codeW (fn := Tryz.f9) (c := bodyC Tryz.f9) Tryz.func9 rfl ?_
 show codeW P 9 24 none _ _ _ _ _
 refine codeW_root ?_
 refine rN ?_ (ht)
 obtain ⟨h1, h1e⟩ : ∃ h1, h1 = h.newCells 39 (rcC r) := ⟨_, rfl⟩
 have o1 : Only h h1 []:= by rw [h1e]; exact (Only.refl _ _).new _ _
 have h1e' := h1e
 unfold rcC at h1e'
 rw [ht] at h1e'
 rw [← h1e']
 refine ((IxTombC h1 b r.key R s r.rev (hx.keep o1) hz hk hsz hq).call P).mono P ?_
 rintro v h3 ⟨rfl, g, s', o3, nb, hx3⟩
 obtain ⟨e, he⟩ : ∃ e, e = W.tombE (getL r.key R) r.rev := ⟨_, rfl⟩
 rw [← he] at hx3 ⊢
 unfold W.errV
 by_cases q : e = 5
 ·have d : decide (e = 5) = true := decide_eq_true q
  refine rN ?_ (d)
  exact ⟨by rw [if_pos q], g, s', Only.trans0 o1 o3, nb.from o1.1, hx3⟩
 ·have d : decide (e = 5) = false := decide_eq_false q
  refine rN ?_ (d)
  exact ⟨by rw [if_neg q], g, s', Only.trans0 o1 o3, nb.from o1.1, hx3⟩
end
end Go.Proofs.YtlkngpckibidlaaGreat.X

namespace Go.Proofs.YtlkngpckibidlaaGreat.X
open Go Go.AX
noncomputable section
set_option maxRecDepth 100000
variable {N : Nat → Prop}
theorem newC (h : H) : PushC P (.enter 4 [] h) fun v h' => v = .ptr h.nx 0 ∧ Only h h' [] ∧ h'.nx = h.nx + 1 ∧ ∀ N : Nat → Prop, (∀ c, h'.nx ≤ c → N c) → IxR N h' h.nx [] .nilslice := by
 refine pushC_of_codeW (fn := Tryz.f4) (c := bodyC Tryz.f4) Tryz.func4 rfl ?_
 show codeW P 4 3 none _ _ _ _ _
 refine codeW_root ?_
 refine rN0 ?_
 obtain ⟨h1, h1e⟩ : ∃ h1, h1 = h.newCells 51 [.nilslice] := ⟨_, rfl⟩
 have o1 : Only h h1 []:= by rw [h1e]; exact (Only.refl _ _).new _ _
 have x1 : h1.nx = h.nx + 1:= by rw [h1e]; rfl
 have z0 : cellAt h1 h.nx 0 = some .nilslice:= by rw [h1e]; exact sT
 have zw : wrAt h1 h.nx = true:= by rw [h1e]; exact sT
 rw [← h1e]
 exact ⟨o1, fun N hN => ⟨⟨⟨by omega, z0, .none, fun p hp => (by cases hp), List.Pairwise.nil, by simp, fun c hc => hN c (by omega)⟩, .nil, zw, fun e => by cases e⟩, rfl⟩⟩
theorem lenC (h : H) (b : Nat) (R : List Pr) (s : AV) (hx : IxR N h b R s) : PushC P (.enter 41 [.ptr b 0] h) (W.Says h (.int .i64 (.ofNat R.length))) := by
 have c0 := hx.ix.c0
 have hso := W.SliceAt.one hx.ix.sl
 have hlen := hx.ix.sl.len (P := P) u47
 refine pushC_of_codeW (fn := Tryz.f41) (c := bodyC Tryz.f41) Tryz.func41 rfl ?_
 show codeW P 41 11 none _ _ _ _ _
 refine codeW_root ?_
 refine rN ?_ (V c0<|V hso<|hlen)
 exact ⟨rfl, Only.refl _ _⟩
theorem ofC (h : H) (b : Nat) (k : List Nat) (R : List Pr) (s : AV) (hx : IxR N h b R s) : PushC P (.enter 42 [.ptr b 0, .str k] h) fun v h' => Only h h' [] ∧ W.GensP (offI N b s) h' v (getL k R) := by
 refine pushC_of_codeW (fn := Tryz.f42) (c := bodyC Tryz.f42) Tryz.func42 rfl ?_
 show codeW P 42 13 none _ _ _ _ _
 refine codeW_root ?_
 refine rN0 ?_
 obtain ⟨h1, h1e⟩ : ∃ h1, h1 = h.newCells 55 [.nilslice] := ⟨_, rfl⟩
 have o1 : Only h h1 []:= by rw [h1e]; exact (Only.refl _ _).new _ _
 have x1 : h1.nx = h.nx + 1:= by rw [h1e]; rfl
 have z1 : cellAt h1 h.nx 0 = some .nilslice:= by rw [h1e]; exact sT
 have w1 : wrAt h1 h.nx = true:= by rw [h1e]; exact sT
 rw [← h1e]
 refine ((getC (fun c => offI N b s c ∧ c ≠ h.nx) h1 b k R s (hx.keep o1).ix (fun p hp => ((hx.ix.gg p hp).mono (q := fun c => offI N b s c ∧ c ≠ h.nx) fun c hc e => ⟨e, by omega⟩).keep0 o1)).call P).mono P ?_
 rintro v h2 ⟨o2, g, rfl, hg, -⟩
 obtain ⟨_, e', hgo, hgc⟩ := hg.val
 cases e'
 have xo2 := o2.1
 have z2 := W.kcell z1 o2 (by omega) (by simp)
 have w2 := W.kwr w1 o2 (by omega) (by simp)
 refine rN ?_ (V hgo<|V hgc<|V z2<|w2)
 have o3 : Only h2 (h2.sts h.nx 0 [g]) [h.nx] := Only.sts (Only.refl _ _) (.inl (by simp))
 exact ⟨(o1.t o2).sts (.inr (Nat.le_refl _)), (hg.keep o3 (fun c q e => by simp at q; exact e.2 q)).mono fun c _ e => e.1⟩
def itV (k : List Nat) (L : List W.Gn) (m : Nat) : List AV :=
 if W.atB L m then [.str k, .int .u64 (.ofNat (W.atK L m).rev.1), .int .u64 (.ofNat (W.atK L m).rev.2), .int .u64 (.ofNat (W.atK L m).made), .int .u64 (.ofNat (W.atK L m).nth)]
 else [.str [], .int .u64 (.ofNat 0), .int .u64 (.ofNat 0), .int .u64 (.ofNat 0), .int .u64 (.ofNat 0)]
theorem itemC (h : H) (k : List Nat) (g : AV) (L : List W.Gn) (m : Nat) (hg : W.GensAt h (.agg [g]) L) (hz : W.Sz 1000 L) : PushC P (.enter 66 [.str k, .agg [g], W.n64 m] h) (W.Says h (.tuple [.agg (itV k L m), .bool (W.atB L m)])) := by
 obtain ⟨_, e', hgo, hgc⟩ := hg.val
 cases e'
 unfold W.n64
 refine pushC_of_codeW (fn := Tryz.f66) (c := bodyC Tryz.f66) Tryz.func66 rfl ?_
 show codeW P 66 28 none _ _ _ _ _
 refine codeW_root ?_
 refine rN ?_ (V hgo<|hgc)
 obtain ⟨h1, h1e⟩ : ∃ h1, h1 = (h.newCells 55 [g]).newCells 87 [.str [], .int .u64 (.ofNat 0), .int .u64 (.ofNat 0), .int .u64 (.ofNat 0), .int .u64 (.ofNat 0)] := ⟨_, rfl⟩
 have o1 : Only h h1 []:= by rw [h1e]; exact ((Only.refl _ _).new _ _).new _ _
 have x1 : h1.nx = h.nx + 2:= by rw [h1e]; rfl
 have z0 : cellAt h1 (h.nx + 1) 0 = some (.str []):= by rw [h1e]; exact sT
 have z1 : cellAt h1 (h.nx + 1) 1 = some (.int .u64 (.ofNat 0)):= by rw [h1e]; exact sT
 have z2 : cellAt h1 (h.nx + 1) 2 = some (.int .u64 (.ofNat 0)):= by rw [h1e]; exact sT
 have z3 : cellAt h1 (h.nx + 1) 3 = some (.int .u64 (.ofNat 0)):= by rw [h1e]; exact sT
 have z4 : cellAt h1 (h.nx + 1) 4 = some (.int .u64 (.ofNat 0)):= by rw [h1e]; exact sT
 have w1 : wrAt h1 (h.nx + 1) = true:= by rw [h1e]; exact sT
 rw [← h1e]
 refine ((W.atC h1 (.agg [g]) L m (hg.keep o1) hz).call P).mono P ?_
 rintro v h2 ⟨rfl, o2⟩
 have xo2 := o2.1
 unfold W.rvA W.rvC W.n64
 have y0 := W.kcell z0 o2 (by omega) (by simp)
 have y1 := W.kcell z1 o2 (by omega) (by simp)
 have y2 := W.kcell z2 o2 (by omega) (by simp)
 have y3 := W.kcell z3 o2 (by omega) (by simp)
 have y4 := W.kcell z4 o2 (by omega) (by simp)
 have v2 := W.kwr w1 o2 (by omega) (by simp)
 have ne : (h.nx + 1 = h2.nx) = False:= by simp; omega
 cases q : W.atB L m with
 | true =>
  refine rN ?_ (V y0<|V y1<|V y2<|V y3<|V y4<|V v2<|ne)
  exact ⟨by unfold itV; rw [q]; rfl, (((o1.t o2).new _ _).sts (.inr (by omega))).sts (.inr (by omega))⟩
 | false =>
  refine rN ?_ (V y0<|V y1<|V y2<|V y3<|V y4<|V v2<|ne)
  exact ⟨by unfold itV; rw [q]; rfl, (((o1.t o2).new _ _).sts (.inr (by omega))).sts (.inr (by omega))⟩
theorem ixGetC (h : H) (b : Nat) (k : List Nat) (R : List Pr) (s : AV) (m : Nat) (hx : IxR N h b R s) (hz : W.Sz 1000 (getL k R)) : PushC P (.enter 39 [.ptr b 0, .str k, W.n64 m] h) (W.Says h (.tuple [.agg (itV k (getL k R) m), .bool (W.atB (getL k R) m)])) := by
 unfold W.n64
 refine pushC_of_codeW (fn := Tryz.f39) (c := bodyC Tryz.f39) Tryz.func39 rfl ?_
 show codeW P 39 21 none _ _ _ _ _
 refine codeW_root ?_
 refine rN0 ?_
 obtain ⟨h1, h1e⟩ : ∃ h1, h1 = h.newCells 87 [.str [], .int .u64 (.ofNat 0), .int .u64 (.ofNat 0), .int .u64 (.ofNat 0), .int .u64 (.ofNat 0)] := ⟨_, rfl⟩
 have o1 : Only h h1 []:= by rw [h1e]; exact (Only.refl _ _).new _ _
 have x1 : h1.nx = h.nx + 1:= by rw [h1e]; rfl
 have z0 : cellAt h1 h.nx 0 = some (.str []):= by rw [h1e]; exact sT
 have z1 : cellAt h1 h.nx 1 = some (.int .u64 (.ofNat 0)):= by rw [h1e]; exact sT
 have z2 : cellAt h1 h.nx 2 = some (.int .u64 (.ofNat 0)):= by rw [h1e]; exact sT
 have z3 : cellAt h1 h.nx 3 = some (.int .u64 (.ofNat 0)):= by rw [h1e]; exact sT
 have z4 : cellAt h1 h.nx 4 = some (.int .u64 (.ofNat 0)):= by rw [h1e]; exact sT
 have w1 : wrAt h1 h.nx = true:= by rw [h1e]; exact sT
 rw [← h1e]
 have hx1 := hx.keep o1
 refine ((getC (offI N b s) h1 b k R s hx1.ix hx1.ix.gg).call P).mono P ?_
 rintro v h2 ⟨o2, g, rfl, hg, -⟩
 obtain ⟨_, e', hgo, hgc⟩ := hg.val
 cases e'
 refine rN ?_ (V hgo<|hgc)
 refine ((itemC h2 k g (getL k R) m hg.at hz).call P).mono P ?_
 rintro v h3 ⟨rfl, o3⟩
 have o4 := o2.t o3
 have xo4 := o4.1
 have y0 := W.kcell z0 o4 (by omega) (by simp)
 have y1 := W.kcell z1 o4 (by omega) (by simp)
 have y2 := W.kcell z2 o4 (by omega) (by simp)
 have y3 := W.kcell z3 o4 (by omega) (by simp)
 have y4 := W.kcell z4 o4 (by omega) (by simp)
 have v2 := W.kwr w1 o4 (by omega) (by simp)
 cases q : W.atB (getL k R) m with
 | true =>
  have hit : itV k (getL k R) m = [.str k, .int .u64 (.ofNat (W.atK (getL k R) m).rev.1), .int .u64 (.ofNat (W.atK (getL k R) m).rev.2), .int .u64 (.ofNat (W.atK (getL k R) m).made), .int .u64 (.ofNat (W.atK (getL k R) m).nth)]:= by unfold itV; rw [if_pos q]
  rw [hit]
  refine rN ?_ (V y0<|V y1<|V y2<|V y3<|V y4<|v2)
  exact ⟨rfl, (o1.t o4).sts (.inr (Nat.le_refl _))⟩
 | false =>
  have hit : itV k (getL k R) m = [.str [], .int .u64 (.ofNat 0), .int .u64 (.ofNat 0), .int .u64 (.ofNat 0), .int .u64 (.ofNat 0)]:= by unfold itV; rw [if_neg (by rw [q]; simp)]
  rw [hit]
  refine rN ?_ (V y0<|V y1<|V y2<|V y3<|V y4<|v2)
  exact ⟨rfl, (o1.t o4).sts (.inr (Nat.le_refl _))⟩
end
end Go.Proofs.YtlkngpckibidlaaGreat.X

namespace Go.Proofs.YtlkngpckibidlaaGreat.X
open Go Go.AX
noncomputable section
set_option maxRecDepth 100000
theorem IxPutBad (h : H) (b : Nat) (k : List Nat) (r : W.Rv) (hk : ¬ keyOk k) : PushC P (.enter 5 [.ptr b 0, .str k, W.rvA r] h) (W.Says h (W.errV 2)) := by
 unfold W.rvA W.rvC
 refine pushC_of_codeW (fn := Tryz.f5) (c := bodyC Tryz.f5) Tryz.func5 rfl ?_
 show codeW P 5 11 none _ _ _ _ _
 refine codeW_root ?_
 refine rN0 ?_
 have o1 : Only h (h.newCells 31 [.int .u64 (.ofNat r.1), .int .u64 (.ofNat r.2)]) [] := (Only.refl _ _).new _ _
 refine ((changeBad _ b k _ rfl hk).call P).mono P ?_
 rintro v h2 ⟨rfl, o2⟩
 unfold W.errV
 refine rN0 ?_
 exact ⟨rfl, o1.t o2⟩
theorem IxTombBad (h : H) (b : Nat) (k : List Nat) (r : W.Rv) (hk : ¬ keyOk k) : PushC P (.enter 7 [.ptr b 0, .str k, W.rvA r] h) (W.Says h (W.errV 2)) := by
 unfold W.rvA W.rvC
 refine pushC_of_codeW (fn := Tryz.f7) (c := bodyC Tryz.f7) Tryz.func7 rfl ?_
 show codeW P 7 11 none _ _ _ _ _
 refine codeW_root ?_
 refine rN0 ?_
 have o1 : Only h (h.newCells 31 [.int .u64 (.ofNat r.1), .int .u64 (.ofNat r.2)]) [] := (Only.refl _ _).new _ _
 refine ((changeBad _ b k _ rfl hk).call P).mono P ?_
 rintro v h2 ⟨rfl, o2⟩
 unfold W.errV
 refine rN0 ?_
 exact ⟨rfl, o1.t o2⟩
theorem IxRestBad (h : H) (b : Nat) (r : Rc) (hk : ¬ keyOk r.key) : PushC P (.enter 9 [.ptr b 0, rcA r] h) (W.Says h (W.errV 2)) := by
 unfold rcA rcC
 obtain ⟨h1, h1e⟩ : ∃ h1, h1 = h.newCells 39 (rcC r) := ⟨_, rfl⟩
 have o1 : Only h h1 []:= by rw [h1e]; exact (Only.refl _ _).new _ _
 unfold rcC at h1e
 refine pushC_of_codeW (fn := Tryz.f9) (c := bodyC Tryz.f9) Tryz.func9 rfl ?_
 show codeW P 9 24 none _ _ _ _ _
 refine codeW_root ?_
 cases ht : r.tomb with
 | true =>
  rw [ht] at h1e
  refine rN ?_ (ht)
  rw [← h1e]
  refine ((IxTombBad h1 b r.key r.rev hk).call P).mono P ?_
  rintro v h2 ⟨rfl, o2⟩
  unfold W.errV
  have d : decide (2 = 5) = false := rfl
  refine rN ?_ (d)
  exact ⟨rfl, o1.t o2⟩
 | false =>
  rw [ht] at h1e
  refine rN ?_ (ht)
  rw [← h1e]
  refine ((changeBad h1 b r.key _ rfl hk).call P).mono P ?_
  rintro v h2 ⟨rfl, o2⟩
  unfold W.errV
  refine rN0 ?_
  exact ⟨rfl, o1.t o2⟩
end
end Go.Proofs.YtlkngpckibidlaaGreat.X

namespace Go.Proofs.YtlkngpckibidlaaGreat.X
open Go Go.AX
noncomputable section
set_option maxRecDepth 100000
variable {N : Nat → Prop}
theorem tailS {h : H} {b : Nat} {R : List Pr} {s : AV} (hx : IxR N h b R s) {i : Nat} (hi : i ≤ R.length) :
  ∃ v2, sliceA P 47 s (some (.int .i64 (.ofNat i))) none none = some v2 ∧ v2.one = true ∧ ∀ h', SliceAt h' s R.length (prsC R) → SliceAt h' v2 (R.length - i) (prsC (R.drop i)) := by
 have hrw := hx.rw
 have hex := hx.ex
 obtain ⟨n, hn⟩ : ∃ n, n = R.length := ⟨_, rfl⟩
 obtain ⟨cs, hcs⟩ : ∃ cs, cs = prsC R := ⟨_, rfl⟩
 have hcl : cs.length = n * 2:= by rw [hcs, hn]; exact prsC_leng R
 have hdr : prsC (R.drop i) = cs.drop (i * 2):= by rw [hcs, prsC_drop]
 rw [hdr]
 rw [← hn, ← hcs] at hrw ⊢
 rw [← hn] at hi
 cases hrw with
 | opn => cases hex
 | nil =>
  obtain rfl : i = 0:= by omega
  exact ⟨.nilslice, by kernel_rfl, rfl, fun h' _ => .none⟩
 | exa bl n c ty cs h0 hl hm hr =>
  refine ⟨_, sl_ex_l (P := P) (e := 75) (size := 2) u47 (by kernel_rfl) (by kernel_rfl) bl 0 n c i .i64 hi, rfl, fun h' hs => ?_⟩
  cases hs with
  | cell _ _ _ _ _ hb hc =>
   refine .cell _ _ _ _ _ hb fun j hj => ?_
   rw [List.length_drop] at hj
   rw [if_neg (by omega), Nat.add_assoc, hc _ (by omega), List.getElem?_drop]
def passB (e : List Nat) (last : Bool) (p : Pr) : Bool := last || listLtB p.key e
def fromL (k e : List Nat) (last : Bool) (R : List Pr) : List Pr := (R.drop (atK k R)).takeWhile (passB e last)
theorem tw_step {α : Type} (f : α → Bool) : ∀ (T : List α) (i : Nat) (x : α), i ≤ (T.takeWhile f).length → T[i]? = some x → (f x = true → (T.takeWhile f)[i]? = some x) ∧ (f x = false → (T.takeWhile f).length = i)
 | [], i, x, _, h => by simp at h
 | y :: T, 0, x, _, h => by
  simp at h; subst h
  cases q : f y <;> simp [List.takeWhile_cons, q]
 | y :: T, i + 1, x, hi, h => by
  rw [List.takeWhile_cons] at hi ⊢
  cases q : f y with
  | false => rw [q] at hi; simp at hi
  | true =>
   rw [q] at hi
   have ih := tw_step f T i x (by simpa using hi) (by simpa using h)
   simp only [↓reduceIte, List.getElem?_cons_succ, List.length_cons]
   exact ⟨ih.1, fun e => by rw [ih.2 e]⟩
theorem tw_le {α : Type} (f : α → Bool) : ∀ (T : List α), (T.takeWhile f).length ≤ T.length
 | [] => by simp
 | y :: T => by rw [List.takeWhile_cons]; split <;> simp; exact tw_le f T
structure FrI (h0 : H) (l c1 c2 c3 c4 : Nat) (v2 : AV) (n : Nat) (ys : List Pr) (S : List Nat) (J : Nat → Option Nat → H → Prop) (m : Nat) (ds : List Nat) (tm : T AV) (h : H) (mv : Option Nat) (i : Nat) : Prop where
 ds : ds = []
 nn : m = n - i
 ii : i ≤ ys.length
 t0 : tm.get 0 = some (.yield l)
 t3 : tm.get 3 = some (.ptr c3 0)
 t4 : tm.get 4 = some (.ptr c4 0)
 t21 : tm.get 21 = some v2
 t22 : tm.get 22 = some (.int .i64 (.ofNat n))
 t23 : tm.get 23 = some (.int .i64 (.ofNat i))
 jj : J i mv h
 mm : ∀ b, mv = some b → h0.nx ≤ b
 oo : Only h0 h S
theorem fromRun (h0 : H) (l b c1 c2 c3 c4 : Nat) (k e : List Nat) (last : Bool) (R : List Pr) (s : AV) (S : List Nat) (J : Nat → Option Nat → H → Prop) (hx : IxR N h0 b R s)
  (q1 : cellAt h0 c1 0 = some (.ptr b 0)) (q2 : cellAt h0 c2 0 = some (.str k)) (q3 : cellAt h0 c3 0 = some (.bool last)) (q4 : cellAt h0 c4 0 = some (.str e)) (hlt : c1 < h0.nx ∧ c2 < h0.nx ∧ c3 < h0.nx ∧ c4 < h0.nx)
  (hS : ∀ c, c ∈ S → c < h0.nx ∧ c ≠ c3 ∧ c ≠ c4 ∧ blkOf s ≠ some c)
  (hJs : ∀ i mv h h', J i mv h → Only h h' [] → J i mv h')
  (hJr : ∀ i mv h p, J i mv h → Only h0 h S → (fromL k e last R)[i]? = some p → PushC P (.round l [.str p.key, .agg [p.v]] h) fun v h' => v = .bool true ∧ ∃ mv', J (i + 1) mv' h' ∧ W.OnlyM h h' S mv ∧ (mv' = mv ∨ ∃ b, mv' = some b ∧ h.nx ≤ b))
  (h0J : J 0 none h0) : PushC P (.enter 61 [.yield l, .ptr c1 0, .ptr c2 0, .ptr c3 0, .ptr c4 0] h0) fun _ h' => ∃ mv, J (fromL k e last R).length mv h' ∧ Only h0 h' S ∧ ∀ b, mv = some b → h0.nx ≤ b := by
 have c0 := hx.ix.c0
 have hso := W.SliceAt.one hx.ix.sl
 refine pushC_of_codeW (fn := Tryz.f61) (c := bodyC Tryz.f61) Tryz.func61 rfl ?_
 show codeW P 61 45 none _ _ _ _ _
 refine codeW_root ?_
 refine rN ?_ (V q1<|q2)
 refine ((findC h0 b k R s hx.ix).call P).mono P ?_
 rintro v h2 ⟨rfl, o2⟩
 have hx2 := hx.keep o2
 have c02 := hx2.ix.c0
 have q12 := W.kcell q1 o2 hlt.1 (by simp)
 obtain ⟨v2, e2, hv2, hs2⟩ := tailS hx2 (atK_le k R)
 have hlen := (hs2 h2 hx2.ix.sl).len (P := P) u47
 have hz := hx.ix.zz
 obtain ⟨T, hT⟩ : ∃ T, T = R.drop (atK k R) := ⟨_, rfl⟩
 have hTl : T.length = R.length - atK k R:= by rw [hT, List.length_drop]
 have hys : fromL k e last R = T.takeWhile (passB e last):= by rw [hT]; rfl
 rw [← hTl, ← hT] at hs2
 rw [← hTl] at hlen
 rw [hys] at hJr ⊢
 refine rN ?_ (V q12<|V c02<|V @ex_sl_l<|V e2<|V hv2<|V hso<|hlen)
 refine st_loop (fun n ds tm h => ∃ mv i, FrI h0 l c1 c2 c3 c4 v2 T.length (T.takeWhile (passB e last)) S J n ds tm h mv i) T.length rfl ⟨none, 0, rfl, rfl, Nat.zero_le _, by exact sT, by exact sT, by exact sT, by exact sT, by exact sT, by exact sT, hJs _ _ _ _ h0J o2, (fun _ q => by cases q), Only.wide o2⟩ (fun n ds tm h hI => ?_)
 obtain ⟨mv, i, rfl, rfl, ii, t0, t3, t4, t21, t22, t23, jj, mm, oo⟩ := hI
 have hle := tw_le (passB e last) T
 by_cases hi : i < T.length
 ·have d1 : decide (i < T.length) = true := decide_eq_true hi
  have lt1 : (i < T.length) = True:= by simp [hi]
  obtain ⟨p, hp⟩ : ∃ p, T[i]? = some p := ⟨_, List.getElem?_eq_getElem hi⟩
  have hss := hs2 h (hx.ix.sl.only oo (fun c q q' => (hS c q').2.2.2 q))
  obtain ⟨bl, o, cap, rfl, hb, -⟩ := hss.place (by omega)
  obtain ⟨p0, p1⟩ := prC_at hss hp
  have hpm : p ∈ R:= by rw [hT] at hp; exact List.mem_of_mem_drop (List.mem_of_getElem? hp)
  have hpo := hx.ix.one p hpm
  have q3' : cellAt h c3 0 = some (.bool last) := W.kcell q3 oo hlt.2.2.1 (fun q => (hS c3 q).2.1 rfl)
  have q4' : cellAt h c4 0 = some (.str e) := W.kcell q4 oo hlt.2.2.2 (fun q => (hS c4 q).2.2.1 rfl)
  have tw := tw_step (passB e last) T i p ii hp
  have n3 : (c3 = h.nx) = False:= by have := oo.1; simp; omega
  have n4 : (c4 = h.nx) = False:= by have := oo.1; simp; omega
  cases last with
  | true =>
   have hps : passB e true p = true := rfl
   refine rN ?_ (V t0<|V t3<|V t4<|V t21<|V t22<|V t23<|V d1<|V lt1<|V p0<|V p1<|V q3'<|V q4'<|V hpo<|V n3<|V n4<|V @b_geqS<|V @Bool.not_true<|@Bool.not_false)
   have o3 : Only h ((h.newCells 75 [.str [], .nilslice]).sts h.nx 0 [.str p.key, p.v]) [] := ((Only.refl _ _).new _ _).sts (.inr (Nat.le_refl _))
   refine ((hJr i mv _ p (hJs _ _ _ _ jj o3) (oo.trans o3 (fun _ h => h) (fun _ h => by cases h)) (tw.1 hps)).call P).mono P ?_
   rintro v h2 ⟨rfl, mv2, jj2, oo4, hm2⟩
   have ho : W.OnlyM h h2 S mv := ⟨Nat.le_trans o3.1 oo4.1, fun b hb hs hm => by rw [oo4.2 b (Nat.lt_of_lt_of_le hb o3.1) hs hm, o3.2 b hb (by simp)]⟩
   have mm2 : ∀ b, mv2 = some b → h0.nx ≤ b := by
    have x2 := oo.1
    have x3 := o3.1
    rcases hm2 with rfl | ⟨c, rfl, hc⟩
    ·exact mm
    ·intro b q; cases q; omega
   have w2 : wrapF .i64 (Int.ofNat i + Int.ofNat 1) = Int.ofNat (i + 1) := i64_add (by omega)
   have hlt2 := (List.getElem?_eq_some_iff.1 (tw.1 hps)).1
   refine rN ?_ (V t23<|V w2<|V @Bool.not_true<|@Bool.not_false)
   exact ⟨T.length - (i + 1), by omega, mv2, i + 1, rfl, rfl, by omega, by exact sT, by exact sT, by exact sT, by exact sT, by exact sT, by exact sT, jj2, mm2, W.OnlyM.from oo ho mm⟩
  | false =>
   cases hlk : listLtB p.key e with
   | true =>
    have hps : passB e false p = true:= by unfold passB; rw [hlk]; rfl
    refine rN ?_ (V t0<|V t3<|V t4<|V t21<|V t22<|V t23<|V d1<|V lt1<|V p0<|V p1<|V q3'<|V q4'<|V hpo<|V n3<|V n4<|V @b_geqS<|V hlk<|V @Bool.not_true<|@Bool.not_false)
    have o3 : Only h ((h.newCells 75 [.str [], .nilslice]).sts h.nx 0 [.str p.key, p.v]) [] := ((Only.refl _ _).new _ _).sts (.inr (Nat.le_refl _))
    refine ((hJr i mv _ p (hJs _ _ _ _ jj o3) (oo.trans o3 (fun _ h => h) (fun _ h => by cases h)) (tw.1 hps)).call P).mono P ?_
    rintro v h2 ⟨rfl, mv2, jj2, oo4, hm2⟩
    have ho : W.OnlyM h h2 S mv := ⟨Nat.le_trans o3.1 oo4.1, fun b hb hs hm => by rw [oo4.2 b (Nat.lt_of_lt_of_le hb o3.1) hs hm, o3.2 b hb (by simp)]⟩
    have mm2 : ∀ b, mv2 = some b → h0.nx ≤ b := by
     have x2 := oo.1
     have x3 := o3.1
     rcases hm2 with rfl | ⟨c, rfl, hc⟩
     ·exact mm
     ·intro b q; cases q; omega
    have w2 : wrapF .i64 (Int.ofNat i + Int.ofNat 1) = Int.ofNat (i + 1) := i64_add (by omega)
    have hlt2 := (List.getElem?_eq_some_iff.1 (tw.1 hps)).1
    refine rN ?_ (V t23<|V w2<|V @Bool.not_true<|@Bool.not_false)
    exact ⟨T.length - (i + 1), by omega, mv2, i + 1, rfl, rfl, by omega, by exact sT, by exact sT, by exact sT, by exact sT, by exact sT, by exact sT, jj2, mm2, W.OnlyM.from oo ho mm⟩
   | false =>
    have hps : passB e false p = false:= by unfold passB; rw [hlk]; rfl
    have hend := tw.2 hps
    have o3 : Only h ((h.newCells 75 [.str [], .nilslice]).sts h.nx 0 [.str p.key, p.v]) [] := ((Only.refl _ _).new _ _).sts (.inr (Nat.le_refl _))
    refine rN ?_ (V t0<|V t3<|V t4<|V t21<|V t22<|V t23<|V d1<|V lt1<|V p0<|V p1<|V q3'<|V q4'<|V hpo<|V n3<|V n4<|V @b_geqS<|V hlk<|V @Bool.not_true<|@Bool.not_false)
    rw [hend]
    exact ⟨mv, hJs _ _ _ _ jj o3, oo.trans o3 (fun _ h => h) (fun _ h => by cases h), mm⟩
 ·have d1 : decide (i < T.length) = false := decide_eq_false hi
  have hend : (T.takeWhile (passB e last)).length = i:= by omega
  refine rN ?_ (V t22<|V t23<|d1)
  rw [retK_norm, hend]
  exact ⟨_, rfl, _, rfl, mv, jj, oo, mm⟩
def fromV (n : Nat) : AV := .func 61 [] [.ptr n 0, .ptr (n + 1) 0, .ptr (n + 3) 0, .ptr (n + 2) 0]
theorem fromC (h : H) (b : Nat) (k e : List Nat) (last : Bool) : PushC P (.enter 30 [.ptr b 0, .str k, .str e, .bool last] h) fun v h' => v = fromV h.nx ∧ Only h h' [] ∧ h'.nx = h.nx + 4 ∧
  cellAt h' h.nx 0 = some (.ptr b 0) ∧ cellAt h' (h.nx + 1) 0 = some (.str k) ∧ cellAt h' (h.nx + 3) 0 = some (.bool last) ∧ cellAt h' (h.nx + 2) 0 = some (.str e) := by
 refine pushC_of_codeW (fn := Tryz.f30) (c := bodyC Tryz.f30) Tryz.func30 rfl ?_
 show codeW P 30 10 none _ _ _ _ _
 refine codeW_root ?_
 refine rN0 ?_
 have hO : Only h ((((h.newCells 112 [.ptr b 0]).newCells 9 [.str k]).newCells 9 [.str e]).newCells 4 [.bool last]) [] := ((((Only.refl _ _).new _ _).new _ _).new _ _).new _ _
 exact ⟨rfl, hO⟩
theorem b_addS {h : H} {t : TypeId} {x y : Operand} (a b : List Nat) (hs : a.length + b.length ≤ 1099511627776) : binR P h .add t x y (.str a) (.str b) = .val (.str (a ++ b)) h := by
 have e : Nat.ble (lenL a + lenL b) 1099511627776 = true:= by rw [lenL_eq, lenL_eq]; exact ble_t hs
 simp only [binR, apartA, binA, strB, optV, e]
def endL (k e : List Nat) : List Nat := if e = [] then k ++ [0] else e
def lastB (e : List Nat) : Bool := decide (e = [0])
end
end Go.Proofs.YtlkngpckibidlaaGreat.X

namespace Go.Proofs.YtlkngpckibidlaaGreat.X
open Go Go.AX
noncomputable section
set_option maxRecDepth 100000
variable {N : Nat → Prop}
structure It where
 key : List Nat
 mod : W.Rv
 made : Nat
 nth : Nat
deriving DecidableEq
def itC (x : It) : List AV := [.str x.key, .int .u64 (.ofNat x.mod.1), .int .u64 (.ofNat x.mod.2), .int .u64 (.ofNat x.made), .int .u64 (.ofNat x.nth)]
def itOf (m : Nat) (p : Pr) : It := ⟨p.key, (W.atK p.L m).rev, (W.atK p.L m).made, (W.atK p.L m).nth⟩
def itsL (m : Nat) (l : List Pr) : List It := (l.filter fun p => W.atB p.L m).map (itOf m)
def itsC (l : List It) : List AV := l.flatMap itC
theorem its_take {m : Nat} {l : List Pr} {k : Nat} {p : Pr} (hp : l[k]? = some p) : itsL m (l.take (k + 1)) = if W.atB p.L m then itsL m (l.take k) ++ [itOf m p] else itsL m (l.take k) := by
 unfold itsL
 rw [List.take_add_one, hp, List.filter_append, List.map_append]
 by_cases q : W.atB p.L m = true
 ·simp [q]
 ·simp [q]
theorem itsC_snoc (l : List It) (x : It) : itsC l ++ itC x = itsC (l ++ [x]):= by simp [itsC]
theorem its_len (m : Nat) (l : List Pr) : (itsL m l).length ≤ l.length:= by unfold itsL; rw [List.length_map]; exact List.length_filter_le _ _
structure RJ (h0 : H) (ys : List Pr) (m : Nat) (r : ALoop) (k : Nat) (mv : Option Nat) (h : H) : Prop where
 nx : h0.nx + 8 ≤ h.nx
 old : ∀ b, b < h0.nx → h.t.get b = h0.t.get b
 hl : h.t.get (h0.nx + 7) = some (.loop r)
 hd : h.t.get (h0.nx + 6) = some (.deferred (some []))
 c0 : cellAt h h0.nx 0 = some (.int .u64 (.ofNat m))
 w1 : wrAt h (h0.nx + 1) = true
 sv : ∃ sv, cellAt h (h0.nx + 1) 0 = some sv ∧ Grows 5 (h0.nx + 8) h sv (itsL m (ys.take k)).length (itsC (itsL m (ys.take k))) ∧ blkOf sv = mv
 tm : r.tm.get 7 = some (.ptr h0.nx 0) ∧ r.tm.get 10 = some (.ptr (h0.nx + 1) 0)
theorem RJ.keep {h0 : H} {ys : List Pr} {m : Nat} {r : ALoop} {k : Nat} {mv : Option Nat} {h h' : H} (hj : RJ h0 ys m r k mv h) (ho : Only h h' []) : RJ h0 ys m r k mv h' := by
 obtain ⟨nx, old, hl, hd, c0, w1, ⟨sv, sc, sg, sb⟩, tm⟩ := hj
 have e := fun b (hb : b < h.nx) => ho.2 b hb (by simp)
 have ec := fun b (hb : b < h.nx) => cellAt_of_get (e b hb)
 have ew := fun b (hb : b < h.nx) => wrAt_of_get (e b hb)
 exact ⟨Nat.le_trans nx ho.1, fun b hb => by rw [e b (by omega), old b hb], by rw [e _ (by omega)]; exact hl, by rw [e _ (by omega)]; exact hd, by rw [ec _ (by omega)]; exact c0, by rw [ew _ (by omega)]; exact w1,
  ⟨sv, by rw [ec _ (by omega)]; exact sc, sg.of_get ho.1 (fun b hb => e b (sg.base hb).2), sb⟩, tm⟩
theorem RJ.o {h0 : H} {ys : List Pr} {m : Nat} {r : ALoop} {k : Nat} {mv : Option Nat} {h : H} (hj : RJ h0 ys m r k mv h) : Only h0 h [] := ⟨by have := hj.nx; omega, fun b hb _ => hj.old b hb⟩
def bodyR : List Nat := [0, 1, 0, 1, 1, 1, 1, 1]
noncomputable abbrev rangeR (h0 : H) (tm : T AV) : ALoop := loopR 37 45 tm [30, 31] (codeI (bodyC Tryz.f37) (0 :: bodyR)) (codeI (bodyC Tryz.f37) (1 :: bodyR)) (h0.nx + 6) .ready
theorem rangeRound (h0 : H) (ys : List Pr) (m : Nat) (tm : T AV) (hlen : ys.length ≤ 100000) (k : Nat) (mv : Option Nat) (h : H) (p : Pr) (hj : RJ h0 ys m (rangeR h0 tm) k mv h) (hp : ys[k]? = some p) (hg : W.GensAt h0 (.agg [p.v]) p.L) (hz : W.Sz 1000 p.L) :
  PushC P (.round (h0.nx + 7) [.str p.key, .agg [p.v]] h) fun v h' => v = .bool true ∧ ∃ mv', RJ h0 ys m (rangeR h0 tm) (k + 1) mv' h' ∧ W.OnlyM h h' [h0.nx + 1, h0.nx + 7] mv ∧ (mv' = mv ∨ ∃ b, mv' = some b ∧ h.nx ≤ b) := by
 have hjo := hj.o
 obtain ⟨nx, old, hl, hd, c0, w1, ⟨sv, sc, sg, sb⟩, q7, q10⟩ := hj
 obtain ⟨_, e', hgo, hgc⟩ := hg.val
 cases e'
 refine round_walk (tm := (tm.set 30 (some (.str p.key))).set 31 (some (.agg [p.v]))) hl rfl ?_
 show codeW P 37 45 (some (h0.nx + 7)) (codeI (bodyC Tryz.f37) (0 :: bodyR)) _ _ _ _
 unfold bodyR
 have q7 : tm.get 7 = some (.ptr h0.nx 0) := q7
 have q10 : tm.get 10 = some (.ptr (h0.nx + 1) 0) := q10
 refine rN ?_ (V hgo<|hgc)
 refine asg_norm (by rw [get_sts _ _ _ _ (by omega), get_new _ _ _ (by omega)]; exact hl) rfl ?_
 show codeW P 37 45 (some (h0.nx + 7)) (codeI (bodyC Tryz.f37) [1, 0, 1, 0, 1, 1, 1, 1, 1]) _ _ _ _
 obtain ⟨h1, e1⟩ : ∃ h1, h1 = ((h.newCells 55 [.nilslice]).sts h.nx 0 [p.v]).obj (h0.nx + 7) (.loop { rangeR h0 tm with state := .busy }) := ⟨_, rfl⟩
 have ho1 : Only h h1 [h0.nx + 1, h0.nx + 7]:= by rw [e1]; exact (((Only.refl _ _).new _ _).sts (.inr (Nat.le_refl _))).obj (.inl (by simp)) _
 have hl1 : h1.t.get (h0.nx + 7) = some (.loop { rangeR h0 tm with state := .busy }):= by rw [e1]; exact get_obj_self _ _
 have hx1 : h1.nx = h.nx + 1:= by rw [e1, nx_obj, nx_sts, nx_new]
 have hget1 : ∀ b, b < h.nx → b ≠ h0.nx + 7 → h1.t.get b = h.t.get b := fun b hb hne => by rw [e1, get_obj_ne hne, get_sts _ _ _ _ (by omega), get_new _ _ _ (by omega)]
 have d0 : cellAt h1 h.nx 0 = some p.v:= by rw [e1, cellAt_obj (by omega), cellAt_sts (by rw [wrAt_new, if_pos rfl]), if_pos ⟨rfl, Nat.le_refl _, by simp⟩]; rfl
 have hc0 : cellAt h1 h0.nx 0 = some (.int .u64 (.ofNat m)):= by rw [cellAt_of_get (hget1 _ (by omega) (by omega))]; exact c0
 have hc1 : cellAt h1 (h0.nx + 1) 0 = some sv:= by rw [cellAt_of_get (hget1 _ (by omega) (by omega))]; exact sc
 have hgh : W.GensAt h1 (.agg [p.v]) p.L := hg.keep ⟨by have := hjo.1; omega, fun b hb _ => by rw [hget1 b (by omega) (by omega)]; exact old b hb⟩
 rw [← e1]
 refine rN ?_ (V q7<|V q10<|V hc0<|V hc1<|V d0<|V hgo<|hgc)
 refine ((itemC h1 p.key p.v p.L m hgh hz).call P).mono P ?_
 rintro v h2 ⟨rfl, ho2⟩
 have hx2 := ho2.1
 have hget2 : ∀ b, b < h.nx → b ≠ h0.nx + 7 → h2.t.get b = h.t.get b := fun b hb hne => by rw [ho2.2 b (by omega) (by simp), hget1 b hb hne]
 have hl2 : h2.t.get (h0.nx + 7) = some (.loop { rangeR h0 tm with state := .busy }):= by rw [ho2.2 _ (by omega) (by simp)]; exact hl1
 have hc2 : cellAt h2 (h0.nx + 1) 0 = some sv:= by rw [cellAt_of_get (hget2 _ (by omega) (by omega))]; exact sc
 have lt := its_take (m := m) hp
 have hn1 : (h0.nx + 1 = h2.nx) = False:= by simp; omega
 cases hat : W.atB p.L m with
 | true =>
  have hit : itV p.key p.L m = itC (itOf m p):= by unfold itV; rw [if_pos hat]; rfl
  rw [hit]
  obtain ⟨I, hI⟩ : ∃ I, I = itC (itOf m p) := ⟨_, rfl⟩
  obtain ⟨h3, e3⟩ : ∃ h3, h3 = (((h2.newCells 87 [.str [], .int .u64 (.ofNat 0), .int .u64 (.ofNat 0), .int .u64 (.ofNat 0), .int .u64 (.ofNat 0)]).sts h2.nx 0 I).newCells 87 I) := ⟨_, rfl⟩
  have hx3 : h3.nx = h2.nx + 2:= by rw [e3, nx_new, nx_sts, nx_new]
  have hget3 : ∀ b, b < h2.nx → h3.t.get b = h2.t.get b := fun b hb => by rw [e3, get_new _ _ _ (by rw [nx_sts, nx_new]; omega), get_sts _ _ _ _ (by omega), get_new _ _ _ (by omega)]
  have hIl : I.length = 5:= by rw [hI]; rfl
  have hI' := hI
  unfold itC at hI'
  unfold itC
  refine rN ?_ (V q10<|V hc2<|hn1)
  rw [← hI', ← e3]
  rw [hat, if_pos rfl] at lt
  have hmv : ∀ b, b < h0.nx + 8 → mv ≠ some b := fun b hb qq => by have := (sg.base (sb.trans qq)).1; omega
  have hks : (itsL m (ys.take k)).length ≤ 100000 := by
   have h1 := its_len m (ys.take k)
   have h2 : (ys.take k).length ≤ ys.length:= by rw [List.length_take]; exact Nat.min_le_right _ _
   omega
  refine exW_grows (base := h0.nx + 8) (h := h3) (sg.of_get (by omega) (fun b hb => by have := sg.base hb; rw [hget3 b (by omega), hget2 b (by omega) (by omega)])) (by omega) (by omega) (by omega) (by rw [hIl]) (by omega) ?_
  intro v' h4 hg' hnx hold hblk
  rw [hI, itsC_snoc] at hg'
  have q : ∀ b, b < h.nx → b ≠ h0.nx + 7 → mv ≠ some b → h4.t.get b = h.t.get b := fun b hb hne hm => by
   rw [hold b (by omega) (by rw [sb]; exact hm), hget3 b (by omega), hget2 b hb hne]
  have hw4 : wrAt h4 (h0.nx + 1) = true:= by rw [wrAt_of_get (q _ (by omega) (by omega) (hmv _ (by omega)))]; exact w1
  have hc4 : cellAt h4 (h0.nx + 1) 0 = some sv:= by rw [cellAt_of_get (q _ (by omega) (by omega) (hmv _ (by omega)))]; exact sc
  have hl4 : h4.t.get (h0.nx + 7) = some (.loop { rangeR h0 tm with state := .busy }):= by rw [hold _ (by omega) (by rw [sb]; exact hmv _ (by omega)), hget3 _ (by omega)]; exact hl2
  have hcv := hg'.cells
  have hov := hg'.one
  refine rN ?_ (V q10<|V @put_sts<|V hw4<|V hc4<|V hcv<|hov)
  have g5 : ∀ b, b ≠ h0.nx + 1 → b ≠ h0.nx + 7 → ((h4.sts (h0.nx + 1) 0 [v']).obj (h0.nx + 7) (.loop (rangeR h0 tm))).t.get b = h4.t.get b := fun b n1 n2 => by rw [get_obj_ne n2, get_sts _ _ _ _ n1]
  refine roundEnd_norm (by rw [get_sts _ _ _ _ (by omega)]; exact hl4) rfl rfl ⟨rfl, blkOf v', ?_, ⟨by rw [nx_obj, nx_sts]; omega, fun b hb hs hm => ?_⟩, .inr ⟨_, hblk, by omega⟩⟩
  ·refine ⟨by rw [nx_obj, nx_sts]; omega, fun b hb => by rw [g5 b (by omega) (by omega), q b (by omega) (by omega) (hmv _ (by omega))]; exact old b hb, get_obj_self _ _,
    by rw [g5 _ (by omega) (by omega), q _ (by omega) (by omega) (hmv _ (by omega))]; exact hd,
    by rw [cellAt_of_get (g5 _ (by omega) (by omega)), cellAt_of_get (q _ (by omega) (by omega) (hmv _ (by omega)))]; exact c0,
    by rw [wrAt_obj (by omega), wrAt_sts]; exact hw4, ⟨v', ?_, ?_, rfl⟩, q7, q10⟩
   ·rw [cellAt_obj (by omega), cellAt_sts hw4, if_pos ⟨rfl, Nat.le_refl _, by simp⟩]; rfl
   ·rw [lt]
    rw [show (itsL m (ys.take k) ++ [itOf m p]).length = (itsL m (ys.take k)).length + 1 by simp]
    refine hg'.of_get (by rw [nx_obj, nx_sts]; exact Nat.le_refl _) (fun b hb => g5 b ?_ ?_)
    ·rw [hblk] at hb; cases hb; omega
    ·rw [hblk] at hb; cases hb; omega
  ·simp only [List.mem_cons, List.mem_nil_iff, or_false, not_or] at hs
   rw [g5 b hs.1 hs.2, q b hb hs.2 hm]
 | false =>
  have hit : itV p.key p.L m = [.str [], .int .u64 (.ofNat 0), .int .u64 (.ofNat 0), .int .u64 (.ofNat 0), .int .u64 (.ofNat 0)]:= by unfold itV; rw [if_neg (by rw [hat]; simp)]
  rw [hit]
  obtain ⟨h3, e3⟩ : ∃ h3, h3 = (h2.newCells 87 [.str [], .int .u64 (.ofNat 0), .int .u64 (.ofNat 0), .int .u64 (.ofNat 0), .int .u64 (.ofNat 0)]).sts h2.nx 0 [.str [], .int .u64 (.ofNat 0), .int .u64 (.ofNat 0), .int .u64 (.ofNat 0), .int .u64 (.ofNat 0)] := ⟨_, rfl⟩
  have hx3 : h3.nx = h2.nx + 1:= by rw [e3, nx_sts, nx_new]
  have hget3 : ∀ b, b < h2.nx → h3.t.get b = h2.t.get b := fun b hb => by rw [e3, get_sts _ _ _ _ (by omega), get_new _ _ _ (by omega)]
  refine rN ?_ (V q10<|V hc2<|hn1)
  rw [← e3]
  rw [hat, if_neg (by simp)] at lt
  have hl3 : h3.t.get (h0.nx + 7) = some (.loop { rangeR h0 tm with state := .busy }):= by rw [hget3 _ (by omega)]; exact hl2
  have g5 : ∀ b, b ≠ h0.nx + 7 → (h3.obj (h0.nx + 7) (.loop (rangeR h0 tm))).t.get b = h3.t.get b := fun b n2 => get_obj_ne n2 _
  have q : ∀ b, b < h.nx → b ≠ h0.nx + 7 → (h3.obj (h0.nx + 7) (.loop (rangeR h0 tm))).t.get b = h.t.get b := fun b hb hne => by rw [g5 b hne, hget3 b (by omega), hget2 b hb hne]
  refine roundEnd_norm hl3 rfl rfl ⟨rfl, mv, ?_, ⟨by rw [nx_obj]; omega, fun b hb hs _ => q b hb (fun e => hs (by simp [e]))⟩, .inl rfl⟩
  refine ⟨by rw [nx_obj]; omega, fun b hb => by rw [q b (by omega) (by omega)]; exact old b hb, get_obj_self _ _, by rw [q _ (by omega) (by omega)]; exact hd,
   by rw [cellAt_of_get (q _ (by omega) (by omega))]; exact c0, by rw [wrAt_of_get (q _ (by omega) (by omega))]; exact w1,
   ⟨sv, by rw [cellAt_of_get (q _ (by omega) (by omega))]; exact sc, ?_, sb⟩, q7, q10⟩
  rw [lt]
  exact sg.of_get (by rw [nx_obj]; omega) (fun b hb => q b (sg.base hb).2 (by have := (sg.base hb).1; omega))
def PostR (h : H) (l : List It) (v : AV) (h' : H) : Prop := Only h h' [] ∧ Grows 5 h.nx h' v l.length (itsC l)
def rangeI (k e : List Nat) (m : Nat) (R : List Pr) : List It := itsL m (fromL k (endL k e) (lastB e) R)
theorem rangeLoop (h0 h2 : H) (b : Nat) (k e : List Nat) (last : Bool) (m : Nat) (R : List Pr) (s : AV) (hx : IxR N h0 b R s) (hz : ∀ p, p ∈ R → W.Sz 1000 p.L) (tm : T AV) (o2 : Only h0 h2 []) (x2 : h2.nx = h0.nx + 6)
  (q1 : cellAt h2 (h0.nx + 2) 0 = some (.ptr b 0)) (q2 : cellAt h2 (h0.nx + 3) 0 = some (.str k)) (q3 : cellAt h2 (h0.nx + 5) 0 = some (.bool last)) (q4 : cellAt h2 (h0.nx + 4) 0 = some (.str e))
  (c0 : cellAt h2 h0.nx 0 = some (.int .u64 (.ofNat m))) (c1 : cellAt h2 (h0.nx + 1) 0 = some .nilslice) (w1 : wrAt h2 (h0.nx + 1) = true)
  (q7 : tm.get 7 = some (.ptr h0.nx 0)) (q10 : tm.get 10 = some (.ptr (h0.nx + 1) 0)) (q29 : tm.get 29 = some (fromV (h0.nx + 2))) (Q : KQ)
  (hQ : ∀ h3 v, Only h0 h3 [] → h0.nx + 8 ≤ h3.nx → h3.t.get (h0.nx + 6) = some (.deferred (some [])) → cellAt h3 (h0.nx + 1) 0 = some v → Grows 5 (h0.nx + 8) h3 v (itsL m (fromL k e last R)).length (itsC (itsL m (fromL k e last R))) → Q .norm [h0.nx + 6] tm h3) :
  codeW P 37 45 none (codeI (bodyC Tryz.f37) bodyR) [] tm h2 Q := by
 unfold bodyR
 refine st_rf rfl (f := .tmp 29) (ps := #[30, 31]) rfl rfl ?_
 refine rf_walk (g := 61) (cap := [.ptr (h0.nx + 2) 0, .ptr (h0.nx + 2 + 1) 0, .ptr (h0.nx + 2 + 3) 0, .ptr (h0.nx + 2 + 2) 0]) (by rw [evalA_tmp, q29]; rfl) (fun args h => callV_func 61 (by kernel_rfl) [] _ args) ?_
 have hbase : ∀ b, b < h2.nx → (loopH h2 37 45 tm [30, 31] (codeI (bodyC Tryz.f37) (0 :: bodyR)) (codeI (bodyC Tryz.f37) (1 :: bodyR))).t.get b = h2.t.get b := fun b hb => by rw [loopH_get, if_neg (by omega), if_neg (by omega)]
 have hbc := fun b (hb : b < h2.nx) => cellAt_of_get (hbase b hb)
 obtain ⟨ys, hys⟩ : ∃ ys, ys = fromL k e last R := ⟨_, rfl⟩
 have hysR : ∀ p, p ∈ ys → p ∈ R := fun p hp => by
  rw [hys] at hp; exact List.mem_of_mem_drop ((List.takeWhile_prefix _).subset hp)
 have hyl : ys.length ≤ 100000 := by
  have h1 := tw_le (passB e last) (R.drop (atK k R))
  have h2 := hx.ix.zz
  rw [List.length_drop] at h1
  rw [hys]; unfold fromL; omega
 have hJ0 : RJ h0 ys m (rangeR h0 tm) 0 none (loopH h2 37 45 tm [30, 31] (codeI (bodyC Tryz.f37) (0 :: bodyR)) (codeI (bodyC Tryz.f37) (1 :: bodyR))) := by
  exact ⟨by rw [loopH_nx]; omega, fun b hb => by rw [hbase b (by omega)]; exact o2.2 b hb (by simp), by rw [loopH_get, if_pos (by omega), x2], by rw [loopH_get, if_neg (by omega), if_pos (by omega)],
   by rw [hbc _ (by omega)]; exact c0, by rw [wrAt_of_get (hbase _ (by omega))]; exact w1, ⟨.nilslice, by rw [hbc _ (by omega)]; exact c1, .none, rfl⟩, q7, q10⟩
 have hxL := hx.keep hJ0.o
 have hlt := hx.ix.lt
 have hbs := hx.ix.sl.blk
 rw [x2]
 refine (fromRun _ (h0.nx + 7) b (h0.nx + 2) (h0.nx + 2 + 1) (h0.nx + 2 + 3) (h0.nx + 2 + 2) k e last R s [h0.nx + 1, h0.nx + 7] (RJ h0 ys m (rangeR h0 tm)) hxL (by rw [hbc _ (by omega)]; exact q1) (by rw [hbc _ (by omega)]; exact q2) (by rw [hbc _ (by omega)]; exact q3) (by rw [hbc _ (by omega)]; exact q4)
  (by rw [loopH_nx]; omega) ?_ (fun _ _ _ _ hj ho => hj.keep ho)
  (fun i mv h p hj _ hp => by
   rw [← hys] at hp
   have hpR := hysR p (List.mem_of_getElem? hp)
   exact rangeRound h0 ys m tm hyl i mv h p hj hp (hx.ix.gg p hpR).at (hz p hpR)) hJ0).mono P ?_
 ·intro c hc
  rw [loopH_nx, x2]
  simp only [List.mem_cons, List.mem_nil_iff, or_false] at hc
  refine ⟨by omega, by omega, by omega, fun e => ?_⟩
  have := hbs c e
  omega
 rintro _ h3 ⟨mv, hj, -, -⟩
 obtain ⟨nx, old, hl, hd, -, w1', ⟨sv, sc, sg, -⟩, -⟩ := hj
 rw [← hys, List.take_length] at sg
 refine ⟨hl, ?_⟩
 obtain ⟨h4, e4⟩ : ∃ h4, h4 = h3.obj (h0.nx + 7) (.loop (loopR 37 45 tm [30, 31] (codeI (bodyC Tryz.f37) (0 :: bodyR)) (codeI (bodyC Tryz.f37) (1 :: bodyR)) (h0.nx + 6) .exhausted)) := ⟨_, rfl⟩
 show Q .norm [h0.nx + 6] tm (h3.obj (h0.nx + 7) (.loop (loopR 37 45 tm [30, 31] (codeI (bodyC Tryz.f37) (0 :: bodyR)) (codeI (bodyC Tryz.f37) (1 :: bodyR)) (h0.nx + 6) .exhausted)))
 rw [← e4]
 have g4 : ∀ b, b ≠ h0.nx + 7 → h4.t.get b = h3.t.get b := fun b hb => by rw [e4, get_obj_ne hb]
 have x4 : h4.nx = h3.nx:= by rw [e4, nx_obj]
 refine hQ h4 sv ⟨by omega, fun b hb _ => by rw [g4 _ (by omega)]; exact old b hb⟩ (by omega) (by rw [g4 _ (by omega)]; exact hd) (by rw [cellAt_of_get (g4 _ (by omega))]; exact sc) ?_
 rw [← hys]
 exact sg.of_get (by omega) (fun b hb => by have := sg.base hb; rw [g4 _ (by omega)])
theorem rangeC (h : H) (b : Nat) (k e : List Nat) (m : Nat) (R : List Pr) (s : AV) (hx : IxR N h b R s) (hz : ∀ p, p ∈ R → W.Sz 1000 p.L) (hk : k.length ≤ 1000000) : PushC P (.enter 37 [.ptr b 0, .str k, .str e, W.n64 m] h) (PostR h (rangeI k e m R)) := by
 have b0 : bytesOf { data := #[0] } = [0] := rfl
 have hl : decide (e = [0]) = lastB e := rfl
 obtain ⟨h1, h1e⟩ : ∃ h1, h1 = (h.newCells 29 [.int .u64 (.ofNat m)]).newCells 83 [.nilslice] := ⟨_, rfl⟩
 have o1 : Only h h1 []:= by rw [h1e]; exact ((Only.refl _ _).new _ _).new _ _
 have x1 : h1.nx = h.nx + 2:= by rw [h1e]; rfl
 have c0 : cellAt h1 h.nx 0 = some (.int .u64 (.ofNat m)):= by rw [h1e]; exact sT
 have c1 : cellAt h1 (h.nx + 1) 0 = some .nilslice:= by rw [h1e]; exact sT
 have w1 : wrAt h1 (h.nx + 1) = true:= by rw [h1e]; exact sT
 have rest : ∀ (tm : T AV) (h2 : H), Only h1 h2 [] → h2.nx = h.nx + 6 → cellAt h2 (h.nx + 2) 0 = some (.ptr b 0) → cellAt h2 (h.nx + 3) 0 = some (.str k) → cellAt h2 (h.nx + 5) 0 = some (.bool (lastB e)) → cellAt h2 (h.nx + 4) 0 = some (.str (endL k e)) →
   tm.get 7 = some (.ptr h.nx 0) → tm.get 10 = some (.ptr (h.nx + 1) 0) → tm.get 29 = some (fromV (h.nx + 2)) → tm.get 8 = some .nilslice →
   codeW P 37 45 none (codeI (bodyC Tryz.f37) bodyR) [] tm h2 (blkK 0 (seqK (codeK P 37 45 none (codeI (bodyC Tryz.f37) [1, 1, 1, 1, 1, 1]) (retK P Tryz.f37 (PostR h (rangeI k e m R)))) (retK P Tryz.f37 (PostR h (rangeI k e m R))))) := by
  intro tm h2 o2 x2 f0 f1 f3 f2 q7 q10 q29 q8
  refine rangeLoop h h2 b k (endL k e) (lastB e) m R s hx hz tm (o1.t o2) x2 f0 f1 f3 f2 (W.kcell c0 o2 (by omega) (by simp)) (W.kcell c1 o2 (by omega) (by simp)) (W.kwr w1 o2 (by omega) (by simp)) q7 q10 q29 _ ?_
  intro h3 v o3 x3 hd hc hg
  have hco := hg.cells
  have hov := hg.one
  refine rN ?_ (V q10<|V q8<|hc)
  refine retW_undef hd rfl ?_
  (conv => arg 2; whnf)
  simp only [B, F, reduceLT, reduceLeDiff, reduceEqDiff, reduceAdd, reduceMul, reduceSub, ↓reduceIte, eq_self]
  refine ⟨⟨by rw [nx_obj]; exact o3.1, fun c hc _ => by rw [get_obj_ne (by omega)]; exact o3.2 c hc (by simp)⟩, ?_⟩
  have hfin : Grows 5 (h.nx + 8) (h3.obj (h.nx + 6) (.deferred none)) v (rangeI k e m R).length (itsC (rangeI k e m R)) :=
   hg.of_get (by rw [nx_obj]; exact Nat.le_refl _) (fun b hb => by have := hg.base hb; rw [get_obj_ne (by omega)])
  exact hfin.weak (by omega)
 unfold W.n64
 refine pushC_of_codeW (fn := Tryz.f37) (c := bodyC Tryz.f37) Tryz.func37 rfl ?_
 show codeW P 37 45 none _ _ _ _ _
 refine codeW_root ?_
 by_cases q : e = []
 ·have d1 : decide (e = bytesOf { data := #[] }) = true := decide_eq_true q
  have ba := fun (h : H) t x y => b_addS (h := h) (t := t) (x := x) (y := y) k [0] (by simp; omega)
  have he : k ++ [0] = endL k e:= by unfold endL; rw [if_pos q]
  refine rN ?_ (V b0<|V d1<|V ba<|V hl<|he)
  rw [← h1e]
  refine ((fromC h1 b k (endL k e) (lastB e)).call P).mono P ?_
  rintro v h2 ⟨rfl, o2, x2, f0, f1, f3, f2⟩
  rw [x1] at f0 f1 f2 f3 x2
  rw [x1]
  refine rN0 ?_
  refine rest _ h2 o2 x2 f0 f1 f3 f2 ?_ ?_ ?_ ?_
  all_goals exact sT
 ·have d1 : decide (e = bytesOf { data := #[] }) = false := decide_eq_false q
  have he : AV.str e = .str (endL k e):= by unfold endL; rw [if_neg q]
  refine rN ?_ (V b0<|V d1<|hl)
  rw [he, ← h1e]
  refine ((fromC h1 b k (endL k e) (lastB e)).call P).mono P ?_
  rintro v h2 ⟨rfl, o2, x2, f0, f1, f3, f2⟩
  rw [x1] at f0 f1 f2 f3 x2
  rw [x1]
  refine rN0 ?_
  refine rest _ h2 o2 x2 f0 f1 f3 f2 ?_ ?_ ?_ ?_
  all_goals exact sT
theorem itC_len (x : It) : (itC x).length = 5 := rfl
theorem itC_at {h : H} {b o n : Nat} {cap : Cap} {l : List It} (hs : SliceAt h (.slice b o n cap) n (itsC l)) {i : Nat} {x : It} (hx : l[i]? = some x) :
  cellAt h b (o + i * 5) = some (.str x.key) ∧ cellAt h b (o + i * 5 + 1) = some (.int .u64 (.ofNat x.mod.1)) ∧ cellAt h b (o + i * 5 + 2) = some (.int .u64 (.ofNat x.mod.2)) ∧ cellAt h b (o + i * 5 + 3) = some (.int .u64 (.ofNat x.made)) ∧ cellAt h b (o + i * 5 + 4) = some (.int .u64 (.ofNat x.nth)) :=
 ⟨W.sl_cell itC_len hs hx (j := 0) (by omega), W.sl_cell itC_len hs hx (j := 1) (by omega), W.sl_cell itC_len hs hx (j := 2) (by omega), W.sl_cell itC_len hs hx (j := 3) (by omega), W.sl_cell itC_len hs hx (j := 4) (by omega)⟩
def kl (p : Pr) : List Nat × List W.Gn := (p.key, p.L)
def compR (m : Nat) (R : List Pr) : List (List Nat × List W.Gn) := R.filterMap fun p => if (W.compL p.L m).isEmpty then none else some (p.key, W.compL p.L m)
theorem compR_take {m : Nat} {R : List Pr} {k : Nat} {p : Pr} (hp : R[k]? = some p) : compR m (R.take (k + 1)) = if (W.compL p.L m).isEmpty then compR m (R.take k) else compR m (R.take k) ++ [(p.key, W.compL p.L m)] := by
 unfold compR
 rw [List.take_add_one, hp, List.filterMap_append]
 cases q : (W.compL p.L m).isEmpty with
 | true => simp only [Option.toList_some, List.filterMap_cons, q, if_pos, List.filterMap_nil, List.append_nil]
 | false => simp only [Option.toList_some, List.filterMap_cons, q, Bool.false_eq_true, if_false, List.filterMap_nil]
theorem compR_len (m : Nat) (R : List Pr) : (compR m R).length ≤ R.length := List.length_filterMap_le _ _
theorem kl_keys {X : List Pr} {l : List (List Nat × List W.Gn)} (h : X.map kl = l) : X.map (·.key) = l.map (·.1) := by
 rw [← h, List.map_map]; rfl
theorem compR_srt {R : List Pr} (m : Nat) (hs : Srt R) {X : List Pr} (hx : X.map kl = compR m R) : Srt X := by
 have h1 := kl_keys hx
 have h2 : ((compR m R).map (·.1)).Pairwise fun a b => listLtB a b = true := by
  rw [List.pairwise_map]
  unfold compR
  rw [List.pairwise_filterMap]
  unfold Srt at hs
  refine hs.imp fun {p q} hlt x hx y hy => ?_
  split at hx
  ·cases hx
  ·split at hy
   ·cases hy
   ·cases hx; cases hy; exact hlt
 rw [← h1] at h2
 exact List.pairwise_map.1 h2
end
end Go.Proofs.YtlkngpckibidlaaGreat.X

namespace Go.Proofs.YtlkngpckibidlaaGreat.W
open Go Go.AX
noncomputable section
set_option maxRecDepth 100000
def rcC (c : Ch) : List AV := [.int .u64 (.ofNat c.rev.1), .int .u64 (.ofNat c.rev.2), .bool c.tomb, .int .u64 (.ofNat c.made), .int .u64 (.ofNat c.nth)]
def rcsC (A : List Ch) : List AV := A.flatMap rcC
theorem rcC_len (c : Ch) : (rcC c).length = 5 := rfl
theorem rcs_len (A : List Ch) : (rcsC A).length = A.length * 5 := flat_len rcC 5 rcC_len A
theorem rcs_snoc (A : List Ch) (c : Ch) : rcsC A ++ rcC c = rcsC (A ++ [c]):= by simp [rcsC]
def RefAt (h : H) (v : AV) (A : List Ch) : Prop := ∃ s, v = .agg [s] ∧ SliceAt h s A.length (rcsC A) ∧ (A = [] → s = .nilslice)
theorem RefAt.keep {h h' : H} {v : AV} {A : List Ch} (hr : RefAt h v A) (ho : Only h h' []) : RefAt h' v A := by
 obtain ⟨s, rfl, hs, hn⟩ := hr; exact ⟨s, rfl, hs.only ho (fun _ _ => by simp), hn⟩
theorem RefAt.val {h : H} {v : AV} {A : List Ch} (hr : RefAt h v A) : ∃ s, v = .agg [s] ∧ s.one = true ∧ s.cells = [s] := by
 obtain ⟨s, rfl, hs, -⟩ := hr; exact ⟨s, rfl, SliceAt.one hs, SliceAt.cells hs⟩
theorem RefAt.nil (h : H) : RefAt h (.agg [.nilslice]) [] := ⟨.nilslice, rfl, .none, fun _ => rfl⟩
theorem rcC_at {h : H} {b o n : Nat} {cap : Cap} {A : List Ch} (hs : SliceAt h (.slice b o n cap) n (rcsC A)) {i : Nat} {x : Ch} (hx : A[i]? = some x) :
  cellAt h b (o + i * 5) = some (.int .u64 (.ofNat x.rev.1)) ∧ cellAt h b (o + (i * 5 + 1)) = some (.int .u64 (.ofNat x.rev.2)) ∧ cellAt h b (o + (i * 5 + 2)) = some (.bool x.tomb) ∧ cellAt h b (o + (i * 5 + 3)) = some (.int .u64 (.ofNat x.made)) ∧
  cellAt h b (o + (i * 5 + 4)) = some (.int .u64 (.ofNat x.nth)) := by
 have hc := fun j (hj : j < 5) => sl_cell rcC_len hs hx hj
 simp only [Nat.add_assoc] at hc
 exact ⟨hc 0 (by omega), hc 1 (by omega), hc 2 (by omega), hc 3 (by omega), hc 4 (by omega)⟩
theorem rAboveC (h : H) (a b : Rv) : PushC P (.enter 74 [rvA a, rvA b] h) (Says h (.bool (above a b))) := by
 obtain ⟨a1, a2⟩ := a
 obtain ⟨b1, b2⟩ := b
 unfold rvA rvC
 refine pushC_of_codeW (fn := Tryz.f74) (c := bodyC Tryz.f74) Tryz.func74 rfl ?_
 show codeW P 74 24 none _ _ _ _ _
 refine codeW_root ?_
 repeat' (first | ((with_reducible refine st1 ?_); (conv => whnf); (with_reducible refine ⟨?_⟩)) | ((with_reducible refine retW_intro rfl ?_); (conv => arg 2; whnf)) | ((with_reducible first | refine iB ?_ ?_ | refine gWt ?_ ?_ | refine gWf ?_ ?_) <;> intro hb <;> (try simp only [hb])) | (simp only [B, F, reduceLT, reduceLeDiff, reduceEqDiff, reduceAdd, reduceMul, reduceSub, ↓reduceIte, eq_self]))
 all_goals refine ⟨?_, ((Only.refl _ _).new _ _).new _ _⟩
 all_goals simp [above, *]
theorem ref_last {h : H} {s : AV} {A : List Ch} (hs : SliceAt h s A.length (rcsC A)) (hA : A ≠ []) (hz : A.length ≤ 1000) : ∃ b o cap c, s = .slice b o A.length cap ∧ b < h.nx ∧ A.getLast? = some c ∧ A[A.length - 1]? = some c ∧
  wrapF .i64 (Int.ofNat A.length - Int.ofNat 1) = Int.ofNat (A.length - 1) ∧ (A.length - 1 < A.length) = True ∧ decide (0 < A.length) = true ∧ decide (A.length = 0) = false := by
 have hl : 0 < A.length := List.length_pos_iff.2 hA
 obtain ⟨b, o, cap, rfl, hb, -⟩ := hs.place hl
 have hx := List.getElem?_eq_getElem (l := A) (show A.length - 1 < A.length by omega)
 exact ⟨b, o, cap, _, rfl, hb, by rw [List.getLast?_eq_getElem?]; exact hx, hx, i64_sub (by omega) (by omega), by simp; omega, decide_eq_true hl, decide_eq_false (by omega)⟩
theorem rFitsC (h : H) (v : AV) (A : List Ch) (r : Rv) (hr : RefAt h v A) (hz : A.length ≤ 1000) : PushC P (.enter 52 [v, rvA r] h) (Says h (.bool (fitA A r))) := by
 obtain ⟨s, rfl, hs, -⟩ := hr
 have hso := SliceAt.one hs
 have hlen := hs.len (P := P) u60
 have e0 : rvA r = .agg [.int .u64 (.ofNat r.1), .int .u64 (.ofNat r.2)] := rfl
 rw [e0]
 refine pushC_of_codeW (fn := Tryz.f52) (c := bodyC Tryz.f52) Tryz.func52 rfl ?_
 show codeW P 52 27 none _ _ _ _ _
 refine codeW_root ?_
 by_cases hA : A = []
 ·subst hA
  have d0 : decide (([] : List Ch).length = 0) = true := rfl
  cases q : decide (0 < r.1) with
  | true =>
   refine rT ?_ (V hso<|V hlen<|V d0<|q)
   exact ⟨by unfold fitA; rw [q]; rfl, ((Only.refl _ _).new _ _).new _ _⟩
  | false =>
   refine rT ?_ (V hso<|V hlen<|V d0<|q)
   exact ⟨by unfold fitA; rw [q]; rfl, ((Only.refl _ _).new _ _).new _ _⟩
 ·obtain ⟨b, o, cap, c, rfl, hb, hl, hx, e1, lt1, dp, d0⟩ := ref_last hs hA hz
  obtain ⟨p0, p1, -⟩ := rcC_at hs hx
  have n1 : (b = h.nx) = False:= by simp; omega
  have n2 : (b = h.nx + 1) = False:= by simp; omega
  cases q : decide (0 < r.1) with
  | false =>
   refine rT ?_ (V hso<|V hlen<|V d0<|q)
   exact ⟨by unfold fitA; rw [q]; rfl, ((Only.refl _ _).new _ _).new _ _⟩
  | true =>
   obtain ⟨h1, h1e⟩ : ∃ h1, h1 = (h.newCells 62 [.slice b o A.length cap]).newCells 31 [.int .u64 (.ofNat r.1), .int .u64 (.ofNat r.2)] := ⟨_, rfl⟩
   have o1 : Only h h1 []:= by rw [h1e]; exact ((Only.refl _ _).new _ _).new _ _
   have k0 : cellAt h1 h.nx 0 = some (.slice b o A.length cap):= by rw [h1e]; exact sT
   have k1 : cellAt h1 (h.nx + 1) 0 = some (.int .u64 (.ofNat r.1)):= by rw [h1e]; exact sT
   have k2 : cellAt h1 (h.nx + 1) 1 = some (.int .u64 (.ofNat r.2)):= by rw [h1e]; exact sT
   have x1 : h1.nx = h.nx + 2:= by rw [h1e]; rfl
   first | replace p0 := kcell p0 o1 (by omega) (by simp) | replace p0 := kwr p0 o1 (by omega) (by simp)
   first | replace p1 := kcell p1 o1 (by omega) (by simp) | replace p1 := kwr p1 o1 (by omega) (by simp)
   refine rT ?_ (V hso<|V hlen<|V d0<|V q<|V e1<|V lt1<|V h1e.symm<|V k0<|V k1<|V k2<|V p0<|p1)
   refine ((rAboveC h1 r c.rev).call P).mono P ?_
   rintro v h2 ⟨rfl, o2⟩
   have xo2 := o2.1
   first | replace k0 := kcell k0 o2 (by omega) (by simp) | replace k0 := kwr k0 o2 (by omega) (by simp)
   first | replace k1 := kcell k1 o2 (by omega) (by simp) | replace k1 := kwr k1 o2 (by omega) (by simp)
   first | replace k2 := kcell k2 o2 (by omega) (by simp) | replace k2 := kwr k2 o2 (by omega) (by simp)
   first | replace p0 := kcell p0 o2 (by omega) (by simp) | replace p0 := kwr p0 o2 (by omega) (by simp)
   first | replace p1 := kcell p1 o2 (by omega) (by simp) | replace p1 := kwr p1 o2 (by omega) (by simp)
   refine rT ?_ (V hso<|V hlen<|V d0<|V q<|V e1<|V lt1<|V k0<|V k1<|V k2<|V p0<|p1)
   exact ⟨by unfold fitA; rw [q, hl]; rfl, o1.t o2⟩
theorem rOpenC (h : H) (v : AV) (A : List Ch) (hr : RefAt h v A) (hz : A.length ≤ 1000) : PushC P (.enter 53 [v] h) (Says h (.bool (opnA A))) := by
 obtain ⟨s, rfl, hs, -⟩ := hr
 have hso := SliceAt.one hs
 have hlen := hs.len (P := P) u60
 refine pushC_of_codeW (fn := Tryz.f53) (c := bodyC Tryz.f53) Tryz.func53 rfl ?_
 show codeW P 53 19 none _ _ _ _ _
 refine codeW_root ?_
 by_cases hA : A = []
 ·subst hA
  have d0 : decide (0 < ([] : List Ch).length) = false := rfl
  refine rN ?_ (V hso<|V hlen<|d0)
  exact ⟨rfl, (Only.refl _ _).new _ _⟩
 ·obtain ⟨b, o, cap, c, rfl, hb, hl, hx, e1, lt1, dp, d0⟩ := ref_last hs hA hz
  obtain ⟨-, -, p2, -⟩ := rcC_at hs hx
  have n1 : (b = h.nx) = False:= by simp; omega
  refine rN ?_ (V hso<|V hlen<|V dp<|V e1<|V lt1<|V n1<|p2)
  exact ⟨by unfold opnA; rw [hl], (Only.refl _ _).new _ _⟩
end
end Go.Proofs.YtlkngpckibidlaaGreat.W

namespace Go.Proofs.YtlkngpckibidlaaGreat.W
open Go Go.AX
noncomputable section
set_option maxRecDepth 100000
def PostRef (h : H) (A : List Ch) (v : AV) (h' : H) : Prop := Only h h' [] ∧ RefAt h' v A ∧ ∀ y, v = .agg [y] → ∀ b, blkOf y = some b → h.nx + 3 ≤ b
theorem ap50nil (h : H) : builtinA P .append [60, 60] [.nilslice, .nilslice] h = .val .nilslice h := by
 have hi : infoOk P 102 5 = true:= by kernel_rfl
 unfold infoOk at hi
 split at hi
 ·rename_i info hinfo
  rw [Bool.and_eq_true] at hi
  rw [bi_append_nil u60 u60 (fun k h => by cases h) hinfo hi.1]
  unfold appendN
  rw [Nat.zero_mul]; rfl
 ·cases hi
theorem rWithC (h : H) (v : AV) (A : List Ch) (c : Ch) (hr : RefAt h v A) (hz : A.length ≤ 1000) : PushC P (.enter 54 [v, .agg (rcC c)] h) (PostRef h (A ++ [c])) := by
 obtain ⟨s, rfl, hs, hn⟩ := hr
 have hso := SliceAt.one hs
 unfold rcC
 obtain ⟨h1, h1e⟩ : ∃ h1, h1 = ((h.newCells 62 [s]).newCells 102 [.int .u64 (.ofNat c.rev.1), .int .u64 (.ofNat c.rev.2), .bool c.tomb, .int .u64 (.ofNat c.made), .int .u64 (.ofNat c.nth)]).newCells 62 [.nilslice] := ⟨_, rfl⟩
 have o1 : Only h h1 []:= by rw [h1e]; exact (((Only.refl _ _).new _ _).new _ _).new _ _
 have x1 : h1.nx = h.nx + 3:= by rw [h1e]; rfl
 have k0 : cellAt h1 h.nx 0 = some s:= by rw [h1e]; exact sT
 have j0 : cellAt h1 (h.nx + 1) 0 = some (.int .u64 (.ofNat c.rev.1)):= by rw [h1e]; exact sT
 have j1 : cellAt h1 (h.nx + 1) 1 = some (.int .u64 (.ofNat c.rev.2)):= by rw [h1e]; exact sT
 have j2 : cellAt h1 (h.nx + 1) 2 = some (.bool c.tomb):= by rw [h1e]; exact sT
 have j3 : cellAt h1 (h.nx + 1) 3 = some (.int .u64 (.ofNat c.made)):= by rw [h1e]; exact sT
 have j4 : cellAt h1 (h.nx + 1) 4 = some (.int .u64 (.ofNat c.nth)):= by rw [h1e]; exact sT
 have t0 : cellAt h1 (h.nx + 2) 0 = some .nilslice:= by rw [h1e]; exact sT
 have tw : wrAt h1 (h.nx + 2) = true:= by rw [h1e]; exact sT
 -- behind the first append
 have main : ∀ (v1 : AV) (h2 : H), Only h1 h2 [] → Grows 5 h1.nx h2 v1 A.length (rcsC A) → ∀ tm ds, ds = [] → tm.get 2 = some (.ptr h.nx 0) → tm.get 3 = some (.ptr (h.nx + 1) 0) → tm.get 4 = some (.ptr (h.nx + 2) 0) → tm.get 5 = some v1 →
   codeW P 54 15 none (codeI (bodyC Tryz.f54) [0, 1, 1, 1]) ds tm h2 (seqK (codeK P 54 15 none (codeI (bodyC Tryz.f54) [1, 1, 1, 1]) (retK P Tryz.f54 (PostRef h (A ++ [c])))) (retK P Tryz.f54 (PostRef h (A ++ [c])))) := by
  intro v1 h2 o2 gr tm ds hds t2 t3 t4 t5
  subst hds
  have xo2 := o2.1
  first | replace j0 := kcell j0 o2 (by omega) (by simp) | replace j0 := kwr j0 o2 (by omega) (by simp)
  first | replace j1 := kcell j1 o2 (by omega) (by simp) | replace j1 := kwr j1 o2 (by omega) (by simp)
  first | replace j2 := kcell j2 o2 (by omega) (by simp) | replace j2 := kwr j2 o2 (by omega) (by simp)
  first | replace j3 := kcell j3 o2 (by omega) (by simp) | replace j3 := kwr j3 o2 (by omega) (by simp)
  first | replace j4 := kcell j4 o2 (by omega) (by simp) | replace j4 := kwr j4 o2 (by omega) (by simp)
  first | replace t0 := kcell t0 o2 (by omega) (by simp) | replace t0 := kwr t0 o2 (by omega) (by simp)
  first | replace tw := kcell tw o2 (by omega) (by simp) | replace tw := kwr tw o2 (by omega) (by simp)
  have go1 := gr.one
  have hne : (h.nx + 2 = h2.nx) = False:= by simp; omega
  obtain ⟨h3, h3e⟩ : ∃ h3, h3 = h2.newCells 102 (rcC c) := ⟨_, rfl⟩
  have o3 : Only h2 h3 []:= by rw [h3e]; exact (Only.refl _ _).new _ _
  have x3 : h3.nx = h2.nx + 1:= by rw [h3e]; rfl
  have gr3 : Grows 5 h1.nx h3 v1 A.length (rcsC A) := gr.of_get o3.1 (fun b hb => by rw [h3e, get_new _ _ _ (by have := (gr.base hb).2; omega)])
  unfold rcC at h3e
  have i0 : cellAt h3 h2.nx 0 = some (.int .u64 (.ofNat c.rev.1)):= by rw [h3e]; exact sT
  have i1 : cellAt h3 h2.nx 1 = some (.int .u64 (.ofNat c.rev.2)):= by rw [h3e]; exact sT
  have i2 : cellAt h3 h2.nx 2 = some (.bool c.tomb):= by rw [h3e]; exact sT
  have i3 : cellAt h3 h2.nx 3 = some (.int .u64 (.ofNat c.made)):= by rw [h3e]; exact sT
  have i4 : cellAt h3 h2.nx 4 = some (.int .u64 (.ofNat c.nth)):= by rw [h3e]; exact sT
  have xo3 := o3.1
  first | replace t0 := kcell t0 o3 (by omega) (by simp) | replace t0 := kwr t0 o3 (by omega) (by simp)
  first | replace tw := kcell tw o3 (by omega) (by simp) | replace tw := kwr tw o3 (by omega) (by simp)
  refine rN ?_ (V t2<|V t3<|V t4<|V t5<|V j0<|V j1<|V j2<|V j3<|V j4<|V h3e.symm<|V go1<|V i0<|V i1<|V i2<|V i3<|i4)
  refine exW_grows (m := 1) (new := rcC c) gr3 (by omega) (by omega) (by omega) rfl (by omega) (fun v' h4 gr4 x4 old4 blk4 => ?_)
  have o4 : Only h h4 [] := ⟨by have := o1.1; omega, fun b hb _ => by
   rw [old4 b (by omega) (fun q => by have := (gr3.base q).1; omega)]; exact ((o1.t o2).t o3).2 b hb (by simp)⟩
  have t04 := (cellAt_of_get (old4 (h.nx + 2) (by omega) (fun q => by have := (gr3.base q).1; omega)) 0).trans t0
  have tw4 := (wrAt_of_get (old4 (h.nx + 2) (by omega) (fun q => by have := (gr3.base q).1; omega))).trans tw
  have go4 := gr4.one
  have gc4 := gr4.cells
  rw [rcs_snoc] at gr4
  have hb4 : ∀ b, blkOf v' = some b → b ∉ [h.nx + 2] := fun b hb => by rw [blk4] at hb; cases hb; simp; omega
  have hs4 : SliceAt h4 v' (A ++ [c]).length (rcsC (A ++ [c])):= by rw [List.length_append]; exact gr4.slice
  repeat' (first | ((with_reducible refine st1 ?_); (conv => whnf); (with_reducible refine ⟨?_⟩)) | ((with_reducible refine retW_intro rfl ?_); (conv => arg 2; whnf)) | ((with_reducible first | refine iB ?_ ?_ | refine gWt ?_ ?_ | refine gWf ?_ ?_) <;> intro hb <;> (try simp only [hb])) | (simp only [B, F, reduceLT, reduceLeDiff, reduceEqDiff, reduceAdd, reduceMul, reduceSub, ↓reduceIte, eq_self, t4, put_sts, tw4, t04, go4, gc4, cellAt_sts tw4]))
  exact ⟨o4.sts (.inr (by omega)), ⟨v', rfl, hs4.only (S := [h.nx + 2]) ((Only.refl _ _).sts (.inl (by simp))) hb4, fun e => by simp at e⟩, fun y e b q => by cases e; rw [blk4] at q; cases q; omega⟩
 refine pushC_of_codeW (fn := Tryz.f54) (c := bodyC Tryz.f54) Tryz.func54 rfl ?_
 show codeW P 54 15 none _ _ _ _ _
 refine codeW_root ?_
 by_cases hA : A = []
 ·subst hA
  obtain rfl := hn rfl
  have g0 : Grows 5 h1.nx h1 .nilslice ([] : List Ch).length (rcsC []) := Grows.none
  have o0 := Only.refl h1 []
  simp only [List.nil_append] at main
  repeat' (first | (with_reducible refine main .nilslice h1 o0 g0 _ _ rfl ?_ ?_ ?_ ?_) | ((with_reducible refine st1 ?_); (conv => whnf); (with_reducible refine ⟨?_⟩)) | ((with_reducible refine retW_intro rfl ?_); (conv => arg 2; whnf)) | ((with_reducible first | refine iB ?_ ?_ | refine gWt ?_ ?_ | refine gWf ?_ ?_) <;> intro hb <;> (try simp only [hb])) | (simp only [B, F, reduceLT, reduceLeDiff, reduceEqDiff, reduceAdd, reduceMul, reduceSub, ↓reduceIte, eq_self, hso, ← h1e, k0, ap50nil]))
 ·obtain ⟨b, o, cap, -, rfl, hb, -⟩ := ref_last hs hA hz
  have hrow : h1.row b o (A.length * 5) = some (rcsC A) := by
   rw [← rcs_len]
   refine row_ok (fun i hi => ?_) (fun e => hA (by rw [← List.length_eq_zero_iff]; have := rcs_len A; rw [e] at this; simp at this; omega))
   have := hs.only o1 (fun _ _ => by simp)
   cases this with
   | cell _ _ _ _ _ _ hc => exact hc i hi
  have hl : 0 < A.length := List.length_pos_iff.2 hA
  refine rN ?_ (V hso<|V h1e.symm<|V k0<|hrow)
  refine exW_grows (m := A.length) (new := rcsC A) Grows.none (Nat.le_refl _) hl (by omega) (by rw [rcs_len]) (by omega) (fun v' h2 gr x2 old blk => ?_)
  rw [Nat.zero_add, List.nil_append] at gr
  have o2 : Only h1 h2 [] := ⟨by omega, fun b hb _ => old b hb (by simp [blkOf])⟩
  have gr1 : Grows 5 h1.nx h2 v' A.length (rcsC A) := gr
  repeat' (first | (with_reducible refine main v' h2 o2 gr1 _ _ rfl ?_ ?_ ?_ ?_) | ((with_reducible refine st1 ?_); (conv => whnf); (with_reducible refine ⟨?_⟩)) | ((with_reducible refine retW_intro rfl ?_); (conv => arg 2; whnf)) | ((with_reducible first | refine iB ?_ ?_ | refine gWt ?_ ?_ | refine gWf ?_ ?_) <;> intro hb <;> (try simp only [hb])) | (simp only [B, F, reduceLT, reduceLeDiff, reduceEqDiff, reduceAdd, reduceMul, reduceSub, ↓reduceIte, eq_self]))
def lkT (A : List Ch) (m : Nat) : Nat → Int
 | 0 => -1
 | i + 1 => match A[i]? with
  | some c => if c.rev.1 ≤ m then Int.ofNat i else lkT A m i
  | none => lkT A m i
structure LkI (h0 : H) (s : AV) (A : List Ch) (m : Nat) (n : Nat) (ds : List Nat) (tm : T AV) (h : H) (i : Nat) : Prop where
 ds : ds = []
 nn : n = A.length - i
 ii : i ≤ A.length
 t1 : tm.get 1 = some (.int .u64 (.ofNat m))
 t2 : tm.get 2 = some (.ptr h0.nx 0)
 t5 : tm.get 5 = some (.int .i64 (lkT A m i))
 t6 : tm.get 6 = some (.int .i64 (.ofNat i))
 hh : h = h0.newCells 62 [s]
theorem rLastC (h0 : H) (v : AV) (A : List Ch) (m : Nat) (hr : RefAt h0 v A) (hz : A.length ≤ 1000) : PushC P (.enter 65 [v, n64 m] h0) (Says h0 (.int .i64 (lkT A m A.length))) := by
 obtain ⟨s, rfl, hs, hn⟩ := hr
 have hso := SliceAt.one hs
 have hlen := hs.len (P := P) u60
 have k0 : cellAt (h0.newCells 62 [s]) h0.nx 0 = some s:= by exact sT
 unfold n64
 refine pushC_of_codeW (fn := Tryz.f65) (c := bodyC Tryz.f65) Tryz.func65 rfl ?_
 show codeW P 65 25 none _ _ _ _ _
 refine codeW_root ?_
 refine rN ?_ (hso)
 refine st_loop (fun n ds tm h => ∃ i, LkI h0 s A m n ds tm h i) A.length rfl ⟨0, rfl, rfl, Nat.zero_le _, by simp only [B, F, reduceLT, reduceLeDiff, reduceEqDiff, reduceAdd, reduceMul, reduceSub, ↓reduceIte, eq_self], by simp only [B, F, reduceLT, reduceLeDiff, reduceEqDiff, reduceAdd, reduceMul, reduceSub, ↓reduceIte, eq_self], by simp only [B, F, reduceLT, reduceLeDiff, reduceEqDiff, reduceAdd, reduceMul, reduceSub, ↓reduceIte, eq_self]; rfl, by simp only [B, F, reduceLT, reduceLeDiff, reduceEqDiff, reduceAdd, reduceMul, reduceSub, ↓reduceIte, eq_self], rfl⟩ (fun n ds tm h hI => ?_)
 obtain ⟨i, rfl, rfl, ii, t1, t2, t5, t6, rfl⟩ := hI
 by_cases hi : i < A.length
 ·have d1 : decide (i < A.length) = true := decide_eq_true hi
  have lt1 : (i < A.length) = True:= by simp [hi]
  have w1 : wrapF .i64 (Int.ofNat i + Int.ofNat 1) = Int.ofNat (i + 1) := i64_add (by omega)
  obtain ⟨c, hc⟩ : ∃ c, A[i]? = some c := ⟨_, List.getElem?_eq_getElem hi⟩
  obtain ⟨b, o, cap, rfl, hb, -⟩ := hs.place (by omega)
  have hp0 := (rcC_at hs hc).1
  have p0 := kcell hp0 ((Only.refl h0 []).new 62 [.slice b o A.length cap]) hb (by simp)
  have nb : (b = h0.nx) = False:= by simp; omega
  cases q : decide (c.rev.1 ≤ m) with
  | true =>
   have e : lkT A m (i + 1) = Int.ofNat i:= by rw [lkT, hc]; simp only; rw [if_pos (of_decide_eq_true q)]
   refine rN ?_ (V t1<|V t2<|V t5<|V t6<|V k0<|V hlen<|V d1<|V lt1<|V nb<|V hp0<|V p0<|V q<|w1)
   exact ⟨A.length - (i + 1), by omega, i + 1, rfl, rfl, hi, by exact sT, by exact sT, by simp only [B, F, reduceLT, reduceLeDiff, reduceEqDiff, reduceAdd, reduceMul, reduceSub, ↓reduceIte, eq_self, e], by exact sT, rfl⟩
  | false =>
   have e : lkT A m (i + 1) = lkT A m i:= by rw [lkT, hc]; simp only; rw [if_neg (of_decide_eq_false q)]
   refine rN ?_ (V t1<|V t2<|V t5<|V t6<|V k0<|V hlen<|V d1<|V lt1<|V nb<|V hp0<|V p0<|V q<|w1)
   exact ⟨A.length - (i + 1), by omega, i + 1, rfl, rfl, hi, by exact sT, by exact sT, by rw [e]; exact sT, by exact sT, rfl⟩
 ·have d1 : decide (i < A.length) = false := decide_eq_false hi
  obtain rfl : i = A.length:= by omega
  refine rN ?_ (V t1<|V t2<|V t5<|V t6<|V k0<|V hlen<|d1)
  exact ⟨rfl, (Only.refl _ _).new _ _⟩
theorem lkT_lst (A : List Ch) (m : Nat) : ∀ i, i ≤ A.length → (lst (atP m) (A.take i) = none ∧ lkT A m i = -1) ∨ ∃ j c, j < i ∧ A[j]? = some c ∧ lst (atP m) (A.take i) = some c ∧ lkT A m i = Int.ofNat j
 | 0, _ => .inl ⟨by simp [lst], rfl⟩
 | i + 1, hi => by
  have hc : A[i]? = some A[i] := List.getElem?_eq_getElem hi
  rw [lst_take hc]
  unfold lkT
  rw [hc]
  simp only
  by_cases q : A[i].rev.1 ≤ m
  ·have hq : atP m A[i] = true := decide_eq_true q
   exact .inr ⟨i, A[i], Nat.lt_succ_self _, hc, by rw [if_pos hq], by rw [if_pos q]⟩
  ·have hq : atP m A[i] = false := decide_eq_false q
   rw [hq, if_neg q]
   rcases lkT_lst A m i (by omega) with ⟨h1, h2⟩ | ⟨j, c, h1, h2, h3, h4⟩
   ·exact .inl ⟨by simpa using h1, h2⟩
   ·exact .inr ⟨j, c, by omega, h2, by simpa using h3, h4⟩
theorem lkT_all (A : List Ch) (m : Nat) : (lst (atP m) A = none ∧ lkT A m A.length = -1) ∨ ∃ j c, j < A.length ∧ A[j]? = some c ∧ lst (atP m) A = some c ∧ lkT A m A.length = Int.ofNat j := by
 have := lkT_lst A m A.length (Nat.le_refl _)
 rwa [List.take_length] at this
def atA (A : List Ch) (m : Nat) : Ch := (isK A m).headD ch0
def atT (A : List Ch) (m : Nat) : Bool := !(isK A m).isEmpty
theorem rAtC (h : H) (v : AV) (A : List Ch) (m : Nat) (hr : RefAt h v A) (hz : A.length ≤ 1000) :
  PushC P (.enter 68 [v, n64 m] h) fun v h' => v = .tuple [rvA (atA A m).rev, n64 (atA A m).made, n64 (atA A m).nth, .bool (atT A m)] ∧ Only h h' [] := by
 have hr0 := hr
 obtain ⟨s, rfl, hs, hn⟩ := hr
 have hso := SliceAt.one hs
 unfold n64
 refine pushC_of_codeW (fn := Tryz.f68) (c := bodyC Tryz.f68) Tryz.func68 rfl ?_
 show codeW P 68 41 none _ _ _ _ _
 refine codeW_root ?_
 refine rT ?_ (hso)
 obtain ⟨h1, h1e⟩ : ∃ h1, h1 = (h.newCells 62 [s]).newCells 31 [.int .u64 (.ofNat 0), .int .u64 (.ofNat 0)] := ⟨_, rfl⟩
 have o1 : Only h h1 []:= by rw [h1e]; exact ((Only.refl _ _).new _ _).new _ _
 have x1 : h1.nx = h.nx + 2:= by rw [h1e]; rfl
 have k0 : cellAt h1 h.nx 0 = some s:= by rw [h1e]; exact sT
 have r0 : cellAt h1 (h.nx + 1) 0 = some (.int .u64 (.ofNat 0)):= by rw [h1e]; exact sT
 have r1 : cellAt h1 (h.nx + 1) 1 = some (.int .u64 (.ofNat 0)):= by rw [h1e]; exact sT
 have rw1 : wrAt h1 (h.nx + 1) = true:= by rw [h1e]; exact sT
 rw [← h1e]
 refine ((rLastC h1 _ A m (hr0.keep o1) hz).call P).mono P ?_
 rintro v h2 ⟨rfl, o2⟩
 have xo2 := o2.1
 first | replace k0 := kcell k0 o2 (by omega) (by simp) | replace k0 := kwr k0 o2 (by omega) (by simp)
 first | replace r0 := kcell r0 o2 (by omega) (by simp) | replace r0 := kwr r0 o2 (by omega) (by simp)
 first | replace r1 := kcell r1 o2 (by omega) (by simp) | replace r1 := kwr r1 o2 (by omega) (by simp)
 first | replace rw1 := kcell rw1 o2 (by omega) (by simp) | replace rw1 := kwr rw1 o2 (by omega) (by simp)
 have oo := o1.t o2
 have fin : ∀ x y : Nat, Only h (h2.sts (h.nx + 1) 0 [.int .u64 (.ofNat x), .int .u64 (.ofNat y)]) [] := fun x y => oo.sts (.inr (by omega))
 rcases lkT_all A m with ⟨e1, e2⟩ | ⟨j, c, hj, hc, e1, e2⟩
 ·have hk : isK A m = []:= by unfold isK; rw [e1]
  have d0 : decide ((-1 : Int) < Int.ofNat 0) = true := rfl
  rw [e2]
  unfold atA atT
  rw [hk]
  repeat' (first | ((with_reducible refine st1 ?_); (conv => whnf); (with_reducible refine ⟨?_⟩)) | ((with_reducible refine st_dw ?_ rfl rfl ?_ ?_); exact rfl; kernel_rfl; (conv => arg 5; whnf); (conv => arg 3; whnf)) | ((with_reducible refine retW_intro rfl ?_); (conv => arg 2; whnf)) | ((with_reducible first | refine iB ?_ ?_ | refine gWt ?_ ?_ | refine gWf ?_ ?_ | refine gXt ?_ ?_ | refine gXf ?_ ?_) <;> intro hb <;> (try simp only [hb])) | ((with_reducible show drawI _ _ _ _ _ _ _ _ _); first | ((with_reducible refine kI_rd ?_ ?_); exact rfl) | ((with_reducible apply kI_rg); exact rfl; exact rfl) | ((with_reducible refine kI_cv ?_ ?_ ?_); exact rfl; kernel_rfl) | ((with_reducible apply kI_al); exact rfl; exact rfl) | ((with_reducible refine kI_ex ?_ ?_ ?_ ?_ ?_); exact rfl; kernel_rfl; exact rfl) | ((with_reducible apply kI_eg); exact rfl; kernel_rfl; exact rfl) | ((with_reducible refine kI_nl ?_ ?_))) | ((with_reducible show eOk _ _ _ _ _ _); first | (exact eok_nil) | (refine ke_rd ?_ ?_ ?_; exact rfl) | (apply ke_rg; exact rfl; exact rfl) | (refine ke_cv ?_ ?_ ?_ ?_; exact rfl; kernel_rfl) | (apply ke_fl; exact rfl) | (apply ke_al; exact rfl; exact rfl)) | ((with_reducible refine freshIs_new ?_); kernel_rfl) | (simp only [B, xB, F, reduceLT, reduceLeDiff, reduceEqDiff, reduceAdd, reduceMul, reduceSub, ↓reduceIte, eq_self, k0, d0, put_sts, rw1, r0, r1, cellAt_sts rw1]))
  exact ⟨rfl, fin 0 0⟩
 ·obtain ⟨b, o, cap, rfl, hb, -⟩ := hs.place (by omega)
  obtain ⟨p0, p1, p2, p3, p4⟩ := rcC_at hs hc
  have ob := oo
  first | replace p0 := kcell p0 ob (by omega) (by simp) | replace p0 := kwr p0 ob (by omega) (by simp)
  first | replace p1 := kcell p1 ob (by omega) (by simp) | replace p1 := kwr p1 ob (by omega) (by simp)
  first | replace p2 := kcell p2 ob (by omega) (by simp) | replace p2 := kwr p2 ob (by omega) (by simp)
  first | replace p3 := kcell p3 ob (by omega) (by simp) | replace p3 := kwr p3 ob (by omega) (by simp)
  first | replace p4 := kcell p4 ob (by omega) (by simp) | replace p4 := kwr p4 ob (by omega) (by simp)
  have nb : (b = h.nx + 1) = False:= by simp; omega
  have d0 : decide (Int.ofNat j < Int.ofNat 0) = false := decide_eq_false (by simp)
  have d1 : decide (j < 0) = false := rfl
  have lt1 : (j < A.length) = True:= by simp [hj]
  rw [e2]
  cases ht : c.tomb with
  | true =>
   have hk : isK A m = []:= by unfold isK; rw [e1]; simp [ht]
   rw [ht] at p2
   unfold atA atT
   rw [hk]
   repeat' (first | ((with_reducible refine st1 ?_); (conv => whnf); (with_reducible refine ⟨?_⟩)) | ((with_reducible refine st_dw ?_ rfl rfl ?_ ?_); exact rfl; kernel_rfl; (conv => arg 5; whnf); (conv => arg 3; whnf)) | ((with_reducible refine retW_intro rfl ?_); (conv => arg 2; whnf)) | ((with_reducible first | refine iB ?_ ?_ | refine gWt ?_ ?_ | refine gWf ?_ ?_ | refine gXt ?_ ?_ | refine gXf ?_ ?_) <;> intro hb <;> (try simp only [hb])) | ((with_reducible show drawI _ _ _ _ _ _ _ _ _); first | ((with_reducible refine kI_rd ?_ ?_); exact rfl) | ((with_reducible apply kI_rg); exact rfl; exact rfl) | ((with_reducible refine kI_cv ?_ ?_ ?_); exact rfl; kernel_rfl) | ((with_reducible apply kI_al); exact rfl; exact rfl) | ((with_reducible refine kI_ex ?_ ?_ ?_ ?_ ?_); exact rfl; kernel_rfl; exact rfl) | ((with_reducible apply kI_eg); exact rfl; kernel_rfl; exact rfl) | ((with_reducible refine kI_nl ?_ ?_))) | ((with_reducible show eOk _ _ _ _ _ _); first | (exact eok_nil) | (refine ke_rd ?_ ?_ ?_; exact rfl) | (apply ke_rg; exact rfl; exact rfl) | (refine ke_cv ?_ ?_ ?_ ?_; exact rfl; kernel_rfl) | (apply ke_fl; exact rfl) | (apply ke_al; exact rfl; exact rfl)) | ((with_reducible refine freshIs_new ?_); kernel_rfl) | (simp only [B, xB, F, reduceLT, reduceLeDiff, reduceEqDiff, reduceAdd, reduceMul, reduceSub, ↓reduceIte, eq_self, k0, d0, d1, put_sts, rw1, r0, r1, cellAt_sts rw1, lt1, nb, p0, p1, p2, p3, p4]))
   exact ⟨rfl, fin 0 0⟩
  | false =>
   have hk : isK A m = [c]:= by unfold isK; rw [e1]; simp [ht]
   rw [ht] at p2
   unfold atA atT
   rw [hk]
   repeat' (first | ((with_reducible refine st1 ?_); (conv => whnf); (with_reducible refine ⟨?_⟩)) | ((with_reducible refine st_dw ?_ rfl rfl ?_ ?_); exact rfl; kernel_rfl; (conv => arg 5; whnf); (conv => arg 3; whnf)) | ((with_reducible refine retW_intro rfl ?_); (conv => arg 2; whnf)) | ((with_reducible first | refine iB ?_ ?_ | refine gWt ?_ ?_ | refine gWf ?_ ?_ | refine gXt ?_ ?_ | refine gXf ?_ ?_) <;> intro hb <;> (try simp only [hb])) | ((with_reducible show drawI _ _ _ _ _ _ _ _ _); first | ((with_reducible refine kI_rd ?_ ?_); exact rfl) | ((with_reducible apply kI_rg); exact rfl; exact rfl) | ((with_reducible refine kI_cv ?_ ?_ ?_); exact rfl; kernel_rfl) | ((with_reducible apply kI_al); exact rfl; exact rfl) | ((with_reducible refine kI_ex ?_ ?_ ?_ ?_ ?_); exact rfl; kernel_rfl; exact rfl) | ((with_reducible apply kI_eg); exact rfl; kernel_rfl; exact rfl) | ((with_reducible refine kI_nl ?_ ?_))) | ((with_reducible show eOk _ _ _ _ _ _); first | (exact eok_nil) | (refine ke_rd ?_ ?_ ?_; exact rfl) | (apply ke_rg; exact rfl; exact rfl) | (refine ke_cv ?_ ?_ ?_ ?_; exact rfl; kernel_rfl) | (apply ke_fl; exact rfl) | (apply ke_al; exact rfl; exact rfl)) | ((with_reducible refine freshIs_new ?_); kernel_rfl) | (simp only [B, xB, F, reduceLT, reduceLeDiff, reduceEqDiff, reduceAdd, reduceMul, reduceSub, ↓reduceIte, eq_self, k0, d0, d1, put_sts, rw1, r0, r1, cellAt_sts rw1, lt1, nb, p0, p1, p2, p3, p4]))
   exact ⟨rfl, fin _ _⟩
end
end Go.Proofs.YtlkngpckibidlaaGreat.W

namespace Go.Proofs.YtlkngpckibidlaaGreat.W
open Go Go.AX
noncomputable section
set_option maxRecDepth 100000
structure SiI (h0 : H) (s : AV) (A : List Ch) (m : Nat) (n : Nat) (ds : List Nat) (tm : T AV) (h : H) (i : Nat) (w : AV) : Prop where
 ds : ds = []
 nn : n = A.length - i
 ii : i ≤ A.length
 t1 : tm.get 1 = some (.int .u64 (.ofNat m))
 t2 : tm.get 2 = some (.ptr h0.nx 0)
 t5 : tm.get 5 = some w
 t6 : tm.get 6 = some (.int .i64 (.ofNat i))
 oo : Only h0 h []
 k0 : cellAt h h0.nx 0 = some s
 nx : h0.nx < h.nx
 gr : Grows 2 (h0.nx + 1) h w (sinceL m (A.take i)).length (rvsC (sinceL m (A.take i)))
theorem rSinceC (h0 : H) (v : AV) (A : List Ch) (m : Nat) (hr : RefAt h0 v A) (hz : A.length ≤ 1000) :
  PushC P (.enter 44 [v, n64 m] h0) fun v h' => Only h0 h' [] ∧ Grows 2 h0.nx h' v (sinceL m A).length (rvsC (sinceL m A)) := by
 obtain ⟨s, rfl, hs, hn⟩ := hr
 have hso := SliceAt.one hs
 have hlen := hs.len (P := P) u60
 have k0 : cellAt (h0.newCells 62 [s]) h0.nx 0 = some s:= by exact sT
 unfold n64
 refine pushC_of_codeW (fn := Tryz.f44) (c := bodyC Tryz.f44) Tryz.func44 rfl ?_
 show codeW P 44 33 none _ _ _ _ _
 refine codeW_root ?_
 refine rN ?_ (hso)
 refine st_loop (fun n ds tm h => ∃ i w, SiI h0 s A m n ds tm h i w) A.length rfl ⟨0, .nilslice, rfl, rfl, Nat.zero_le _, by exact sT, by exact sT, by exact sT, by exact sT, (Only.refl _ _).new _ _, k0, Nat.lt_succ_self _, Grows.none⟩ (fun n ds tm h hI => ?_)
 clear k0
 obtain ⟨i, w, rfl, rfl, ii, t1, t2, t5, t6, oo, k0, nx, gr⟩ := hI
 have go1 := gr.one
 by_cases hi : i < A.length
 ·have d1 : decide (i < A.length) = true := decide_eq_true hi
  have lt1 : (i < A.length) = True:= by simp [hi]
  have w1 : wrapF .i64 (Int.ofNat i + Int.ofNat 1) = Int.ofNat (i + 1) := i64_add (by omega)
  obtain ⟨c, hc⟩ : ∃ c, A[i]? = some c := ⟨_, List.getElem?_eq_getElem hi⟩
  obtain ⟨b, o, cap, rfl, hb, -⟩ := hs.place (by omega)
  obtain ⟨p0, p1, -⟩ := rcC_at hs hc
  first | replace p0 := kcell p0 oo (by omega) (by simp) | replace p0 := kwr p0 oo (by omega) (by simp)
  first | replace p1 := kcell p1 oo (by omega) (by simp) | replace p1 := kwr p1 oo (by omega) (by simp)
  have hst := since_take (m := m) hc
  have hsl := since_len m (A.take i)
  rw [List.length_take] at hsl
  have x0 := oo.1
  cases q : decide (m ≤ c.rev.1) with
  | true =>
   rw [if_pos (of_decide_eq_true q)] at hst
   obtain ⟨h1, h1e⟩ : ∃ h1, h1 = h.newCells 31 [.int .u64 (.ofNat c.rev.1), .int .u64 (.ofNat c.rev.2)] := ⟨_, rfl⟩
   have i0 : cellAt h1 h.nx 0 = some (.int .u64 (.ofNat c.rev.1)):= by rw [h1e]; exact sT
   have i1 : cellAt h1 h.nx 1 = some (.int .u64 (.ofNat c.rev.2)):= by rw [h1e]; exact sT
   have o1 : Only h h1 []:= by rw [h1e]; exact (Only.refl _ _).new _ _
   have x1 : h1.nx = h.nx + 1:= by rw [h1e]; rfl
   have gr1 : Grows 2 (h0.nx + 1) h1 w _ _ := gr.of_get o1.1 (fun b hb => by rw [h1e, get_new _ _ _ (by have := (gr.base hb).2; omega)])
   refine rN ?_ (V t1<|V t2<|V t5<|V t6<|V k0<|V hlen<|V d1<|V lt1<|V p0<|V p1<|V q<|V w1<|V h1e.symm<|V i0<|i1)
   refine exW_grows (m := 1) (new := rvC c.rev) gr1 (by omega) (by omega) (by omega) rfl (by omega) (fun v' h2 gr2 x2 old2 blk2 => ?_)
   have e : rvsC (sinceL m (A.take i)) ++ rvC c.rev = rvsC (sinceL m (A.take i) ++ [c.rev]):= by simp [rvsC]
   rw [e] at gr2
   have o2 : Only h0 h2 [] := ⟨by omega, fun b hb _ => by
    rw [old2 b (by omega) (fun q => by have := (gr1.base q).1; omega)]; exact (oo.t o1).2 b hb (by simp)⟩
   have k02 := (cellAt_of_get (old2 h0.nx (by omega) (fun q => by have := (gr1.base q).1; omega)) 0).trans (kcell k0 o1 (by omega) (by simp))
   have go2 := gr2.one
   refine rN ?_ (V t1<|V t2<|V t5<|V t6<|V w1<|go2)
   exact ⟨A.length - (i + 1), by omega, i + 1, v', rfl, rfl, hi, by exact sT, by exact sT, by exact sT, by exact sT, o2, k02, by omega, by rw [hst, List.length_append]; exact gr2⟩
  | false =>
   rw [if_neg (of_decide_eq_false q)] at hst
   refine rN ?_ (V t1<|V t2<|V t5<|V t6<|V k0<|V hlen<|V d1<|V lt1<|V p0<|V p1<|V q<|w1)
   exact ⟨A.length - (i + 1), by omega, i + 1, w, rfl, rfl, hi, by exact sT, by exact sT, by exact sT, by exact sT, oo, k0, nx, by rw [hst]; exact gr⟩
 ·have d1 : decide (i < A.length) = false := decide_eq_false hi
  obtain rfl : i = A.length:= by omega
  rw [List.take_length] at gr
  refine rN ?_ (V t1<|V t2<|V t5<|V t6<|V k0<|V hlen<|d1)
  exact ⟨oo, gr.weak (by omega)⟩
def RefP (p : Nat → Prop) (h : H) (v : AV) (A : List Ch) : Prop := RefAt h v A ∧ ∀ y, v = .agg [y] → ∀ b, blkOf y = some b → p b
theorem RefP.keep0 {p : Nat → Prop} {h h' : H} {v : AV} {A : List Ch} (hr : RefP p h v A) (ho : Only h h' []) : RefP p h' v A := ⟨hr.1.keep ho, hr.2⟩
theorem RefP.keep {p : Nat → Prop} {h h' : H} {v : AV} {A : List Ch} (hr : RefP p h v A) {S : List Nat} (ho : Only h h' S) (hS : ∀ c, c ∈ S → ¬ p c) : RefP p h' v A := by
 obtain ⟨⟨s, rfl, hs, hn⟩, hp⟩ := hr
 exact ⟨⟨s, rfl, hs.only ho (fun b q hb => hS b hb (hp s rfl b q)), hn⟩, hp⟩
theorem RefP.nil (p : Nat → Prop) (h : H) : RefP p h (.agg [.nilslice]) [] := ⟨RefAt.nil h, fun y e b q => by cases e; cases q⟩
def PostRE (p : Nat → Prop) (h : H) (A : List Ch) (e : Nat) (v : AV) (h' : H) : Prop := Only h h' [] ∧ ∃ g, v = .tuple [g, errV e] ∧ RefP p h' g A
def putA (A : List Ch) (r : Rv) : List Ch := if fitA A r then A ++ [nextA A r r.1 1] else A
def putAE (A : List Ch) (r : Rv) : Nat := if fitA A r then 0 else 2
def tombA (A : List Ch) (r : Rv) : List Ch := if fitA A r && opnA A then A ++ [⟨r, 0, 0, true⟩] else A
def tombAE (A : List Ch) (r : Rv) : Nat := if fitA A r then (if opnA A then 0 else 5) else 2
theorem boxes2 (h : H) (s : AV) (r : Rv) : ∃ h1, h1 = ((h.newCells 62 [s]).newCells 31 [.int .u64 (.ofNat r.1), .int .u64 (.ofNat r.2)]).newCells 62 [.nilslice] ∧ Only h h1 [] ∧ h1.nx = h.nx + 3 ∧ cellAt h1 h.nx 0 = some s ∧
  cellAt h1 (h.nx + 1) 0 = some (.int .u64 (.ofNat r.1)) ∧ cellAt h1 (h.nx + 1) 1 = some (.int .u64 (.ofNat r.2)) ∧ cellAt h1 (h.nx + 2) 0 = some .nilslice ∧ wrAt h1 (h.nx + 2) = true := by
 refine ⟨_, rfl, (((Only.refl _ _).new _ _).new _ _).new _ _, rfl, ?_, ?_, ?_, ?_, ?_⟩ <;> exact sT
theorem put_box {p : Nat → Prop} {h hX : H} {z y : AV} {B : List Ch} (o : Only h hX []) (hz : z = .agg [y]) (hr : RefP p hX z B) (hb : ∀ b, blkOf y = some b → b ≠ h.nx + 2) : Only h (hX.sts (h.nx + 2) 0 [y]) [] ∧ RefP p (hX.sts (h.nx + 2) 0 [y]) z B := by
 subst hz
 obtain ⟨⟨_, e, hs, hn⟩, hp⟩ := hr
 cases e
 exact ⟨o.sts (.inr (by omega)), ⟨y, rfl, hs.only (S := [h.nx + 2]) ((Only.refl _ _).sts (.inl (by simp))) (fun b q => by simpa using hb b q), hn⟩, hp⟩
theorem rTombC (p : Nat → Prop) (h : H) (v : AV) (A : List Ch) (r : Rv) (hp : ∀ b, h.nx ≤ b → p b) (hr : RefP p h v A) (hz : A.length ≤ 900) : PushC P (.enter 25 [v, rvA r] h) (PostRE p h (tombA A r) (tombAE A r)) := by
 have hr0 := hr
 obtain ⟨⟨s, rfl, hs, hn⟩, hpb⟩ := hr
 have hso := SliceAt.one hs
 have hsc := SliceAt.cells hs
 have e0 : rvA r = .agg [.int .u64 (.ofNat r.1), .int .u64 (.ofNat r.2)] := rfl
 rw [e0]
 refine pushC_of_codeW (fn := Tryz.f25) (c := bodyC Tryz.f25) Tryz.func25 rfl ?_
 show codeW P 25 19 none _ _ _ _ _
 refine codeW_root ?_
 refine rN ?_ (hso)
 obtain ⟨h1, h1e, o1, x1, k0, r0, r1, z0, zw⟩ := boxes2 h s r
 rw [← h1e]
 refine ((rFitsC h1 _ A r (hr0.1.keep o1) (by omega)).call P).mono P ?_
 rintro v h2 ⟨rfl, o2⟩
 have xo2 := o2.1
 first | replace k0 := kcell k0 o2 (by omega) (by simp) | replace k0 := kwr k0 o2 (by omega) (by simp)
 first | replace r0 := kcell r0 o2 (by omega) (by simp) | replace r0 := kwr r0 o2 (by omega) (by simp)
 first | replace r1 := kcell r1 o2 (by omega) (by simp) | replace r1 := kwr r1 o2 (by omega) (by simp)
 first | replace z0 := kcell z0 o2 (by omega) (by simp) | replace z0 := kwr z0 o2 (by omega) (by simp)
 first | replace zw := kcell zw o2 (by omega) (by simp) | replace zw := kwr zw o2 (by omega) (by simp)
 have oo := o1.t o2
 have hsb : ∀ b, blkOf s = some b → b ≠ h.nx + 2 := fun b q => by have := hs.blk b q; omega
 cases q : fitA A r with
 | false =>
  have e1 : tombA A r = A:= by unfold tombA; rw [q]; rfl
  have e2 : tombAE A r = 2:= by unfold tombAE; rw [q]; rfl
  rw [e1, e2]
  unfold PostRE errV
  repeat' (first | ((with_reducible refine st1 ?_); (conv => whnf); (with_reducible refine ⟨?_⟩)) | ((with_reducible refine retW_intro rfl ?_); (conv => arg 2; whnf)) | ((with_reducible first | refine iB ?_ ?_ | refine gWt ?_ ?_ | refine gWf ?_ ?_) <;> intro hb <;> (try simp only [hb])) | (simp only [B, F, reduceLT, reduceLeDiff, reduceEqDiff, reduceAdd, reduceMul, reduceSub, ↓reduceIte, eq_self, k0, z0, zw, put_sts, hso, hsc, cellAt_sts zw]))
  obtain ⟨f1, f2⟩ := put_box oo rfl (hr0.keep0 oo) hsb
  exact ⟨f1, _, rfl, f2⟩
 | true =>
  refine rN ?_ (V k0<|V z0<|zw)
  refine ((rOpenC h2 _ A (hr0.1.keep oo) (by omega)).call P).mono P ?_
  rintro v h3 ⟨rfl, o3⟩
  have xo3 := o3.1
  first | replace k0 := kcell k0 o3 (by omega) (by simp) | replace k0 := kwr k0 o3 (by omega) (by simp)
  first | replace r0 := kcell r0 o3 (by omega) (by simp) | replace r0 := kwr r0 o3 (by omega) (by simp)
  first | replace r1 := kcell r1 o3 (by omega) (by simp) | replace r1 := kwr r1 o3 (by omega) (by simp)
  first | replace z0 := kcell z0 o3 (by omega) (by simp) | replace z0 := kwr z0 o3 (by omega) (by simp)
  first | replace zw := kcell zw o3 (by omega) (by simp) | replace zw := kwr zw o3 (by omega) (by simp)
  have oo3 := oo.t o3
  cases q2 : opnA A with
  | false =>
   have e1 : tombA A r = A:= by unfold tombA; rw [q, q2]; rfl
   have e2 : tombAE A r = 5:= by unfold tombAE; rw [q, q2]; rfl
   rw [e1, e2]
   unfold PostRE errV
   repeat' (first | ((with_reducible refine st1 ?_); (conv => whnf); (with_reducible refine ⟨?_⟩)) | ((with_reducible refine retW_intro rfl ?_); (conv => arg 2; whnf)) | ((with_reducible first | refine iB ?_ ?_ | refine gWt ?_ ?_ | refine gWf ?_ ?_) <;> intro hb <;> (try simp only [hb])) | (simp only [B, F, reduceLT, reduceLeDiff, reduceEqDiff, reduceAdd, reduceMul, reduceSub, ↓reduceIte, eq_self, k0, z0, zw, put_sts, hso, hsc, cellAt_sts zw]))
   obtain ⟨f1, f2⟩ := put_box oo3 rfl (hr0.keep0 oo3) hsb
   exact ⟨f1, _, rfl, f2⟩
  | true =>
   have e1 : tombA A r = A ++ [⟨r, 0, 0, true⟩]:= by unfold tombA; rw [q, q2]; rfl
   have e2 : tombAE A r = 0:= by unfold tombAE; rw [q, q2]; rfl
   rw [e1, e2]
   unfold PostRE errV
   refine rN ?_ (V k0<|V r0<|r1)
   refine ((rWithC h3 _ A ⟨r, 0, 0, true⟩ (hr0.1.keep oo3) (by omega)).call P).mono P ?_
   rintro v h4 ⟨o4, hr4, hb4⟩
   obtain ⟨y, rfl, hyo, hyc⟩ := hr4.val
   have xo4 := o4.1
   first | replace z0 := kcell z0 o4 (by omega) (by simp) | replace z0 := kwr z0 o4 (by omega) (by simp)
   first | replace zw := kcell zw o4 (by omega) (by simp) | replace zw := kwr zw o4 (by omega) (by simp)
   repeat' (first | ((with_reducible refine st1 ?_); (conv => whnf); (with_reducible refine ⟨?_⟩)) | ((with_reducible refine retW_intro rfl ?_); (conv => arg 2; whnf)) | ((with_reducible first | refine iB ?_ ?_ | refine gWt ?_ ?_ | refine gWf ?_ ?_) <;> intro hb <;> (try simp only [hb])) | (simp only [B, F, reduceLT, reduceLeDiff, reduceEqDiff, reduceAdd, reduceMul, reduceSub, ↓reduceIte, eq_self, z0, zw, put_sts, hyo, hyc, cellAt_sts zw]))
   obtain ⟨f1, f2⟩ := put_box (p := p) (oo3.t o4) rfl ⟨hr4, fun y e b q => hp b (by have := hb4 y e b q; omega)⟩ (fun b q => by have := hb4 y rfl b q; omega)
   exact ⟨f1, _, rfl, f2⟩
theorem rPutC (p : Nat → Prop) (h : H) (v : AV) (A : List Ch) (r : Rv) (hp : ∀ b, h.nx ≤ b → p b) (hr : RefP p h v A) (hz : A.length ≤ 900) (hr1 : r.1 < M64) : PushC P (.enter 21 [v, rvA r] h) (PostRE p h (putA A r) (putAE A r)) := by
  have hr0 := hr
  obtain ⟨⟨s, rfl, hs, hn⟩, hpb⟩ := hr
  have hso := SliceAt.one hs
  have hsc := SliceAt.cells hs
  have hlen := hs.len (P := P) u60
  have e0 : rvA r = .agg [.int .u64 (.ofNat r.1), .int .u64 (.ofNat r.2)] := rfl
  rw [e0]
  refine pushC_of_codeW (fn := Tryz.f21) (c := bodyC Tryz.f21) Tryz.func21 rfl ?_
  show codeW P 21 37 none _ _ _ _ _
  refine codeW_root ?_
  refine rN ?_ (hso)
  obtain ⟨h1, h1e, o1, x1, k0, r0, r1, z0, zw⟩ := boxes2 h s r
  rw [← h1e]
  refine ((rFitsC h1 _ A r (hr0.1.keep o1) (by omega)).call P).mono P ?_
  rintro v h2 ⟨rfl, o2⟩
  have xo2 := o2.1
  first | replace k0 := kcell k0 o2 (by omega) (by simp) | replace k0 := kwr k0 o2 (by omega) (by simp)
  first | replace r0 := kcell r0 o2 (by omega) (by simp) | replace r0 := kwr r0 o2 (by omega) (by simp)
  first | replace r1 := kcell r1 o2 (by omega) (by simp) | replace r1 := kwr r1 o2 (by omega) (by simp)
  first | replace z0 := kcell z0 o2 (by omega) (by simp) | replace z0 := kwr z0 o2 (by omega) (by simp)
  first | replace zw := kcell zw o2 (by omega) (by simp) | replace zw := kwr zw o2 (by omega) (by simp)
  have oo := o1.t o2
  have hsb : ∀ b, blkOf s = some b → b ≠ h.nx + 2 := fun b q => by have := hs.blk b q; omega
  cases q : fitA A r with
  | false =>
    have e1 : putA A r = A:= by unfold putA; rw [q]; rfl
    have e2 : putAE A r = 2:= by unfold putAE; rw [q]; rfl
    rw [e1, e2]
    unfold PostRE errV
    repeat' (first | ((with_reducible refine st1 ?_); (conv => whnf); (with_reducible refine ⟨?_⟩)) | ((with_reducible refine retW_intro rfl ?_); (conv => arg 2; whnf)) | ((with_reducible first | refine iB ?_ ?_ | refine gWt ?_ ?_ | refine gWf ?_ ?_) <;> intro hb <;> (try simp only [hb])) | (simp only [B, F, reduceLT, reduceLeDiff, reduceEqDiff, reduceAdd, reduceMul, reduceSub, ↓reduceIte, eq_self, k0, z0, zw, put_sts, hso, hsc, cellAt_sts zw]))
    obtain ⟨f1, f2⟩ := put_box oo rfl (hr0.keep0 oo) hsb
    exact ⟨f1, _, rfl, f2⟩
  | true =>
    refine rN ?_ (V k0<|V z0<|zw)
    refine ((rOpenC h2 _ A (hr0.1.keep oo) (by omega)).call P).mono P ?_
    rintro v h3 ⟨rfl, o3⟩
    have xo3 := o3.1
    first | replace k0 := kcell k0 o3 (by omega) (by simp) | replace k0 := kwr k0 o3 (by omega) (by simp)
    first | replace r0 := kcell r0 o3 (by omega) (by simp) | replace r0 := kwr r0 o3 (by omega) (by simp)
    first | replace r1 := kcell r1 o3 (by omega) (by simp) | replace r1 := kwr r1 o3 (by omega) (by simp)
    first | replace z0 := kcell z0 o3 (by omega) (by simp) | replace z0 := kwr z0 o3 (by omega) (by simp)
    first | replace zw := kcell zw o3 (by omega) (by simp) | replace zw := kwr zw o3 (by omega) (by simp)
    have oo3 := oo.t o3
    have e2 : putAE A r = 0:= by unfold putAE; rw [q]; rfl
    have e1 : putA A r = A ++ [nextA A r r.1 1]:= by unfold putA; rw [q]; rfl
    rw [e1, e2]
    unfold PostRE errV
    cases q2 : opnA A with
    | false =>
      have e3 : nextA A r r.1 1 = ⟨r, r.1, 1, false⟩ := by
        unfold opnA at q2; unfold nextA
        cases hl : A.getLast? with
        | none => rfl
        | some c => rw [hl] at q2; have : c.tomb = true:= by simpa using q2
                    simp only [this, if_true]; rfl
      rw [e3]
      refine rN ?_ (V k0<|V r0<|r1)
      refine ((rWithC h3 _ A ⟨r, r.1, 1, false⟩ (hr0.1.keep oo3) (by omega)).call P).mono P ?_
      rintro v h4 ⟨o4, hr4, hb4⟩
      obtain ⟨y, rfl, hyo, hyc⟩ := hr4.val
      have xo4 := o4.1
      first | replace z0 := kcell z0 o4 (by omega) (by simp) | replace z0 := kwr z0 o4 (by omega) (by simp)
      first | replace zw := kcell zw o4 (by omega) (by simp) | replace zw := kwr zw o4 (by omega) (by simp)
      repeat' (first | ((with_reducible refine st1 ?_); (conv => whnf); (with_reducible refine ⟨?_⟩)) | ((with_reducible refine retW_intro rfl ?_); (conv => arg 2; whnf)) | ((with_reducible first | refine iB ?_ ?_ | refine gWt ?_ ?_ | refine gWf ?_ ?_) <;> intro hb <;> (try simp only [hb])) | (simp only [B, F, reduceLT, reduceLeDiff, reduceEqDiff, reduceAdd, reduceMul, reduceSub, ↓reduceIte, eq_self, z0, zw, put_sts, hyo, hyc, cellAt_sts zw]))
      obtain ⟨f1, f2⟩ := put_box (p := p) (oo3.t o4) rfl ⟨hr4, fun y e b q => hp b (by have := hb4 y e b q; omega)⟩ (fun b q => by have := hb4 y rfl b q; omega)
      exact ⟨f1, _, rfl, f2⟩
    | true =>
      have hA : A ≠ []:= by rintro rfl; cases q2
      obtain ⟨b, o, cap, c, rfl, hb, hl, hx, w1, lt1, dp, d0⟩ := ref_last hs hA (by omega)
      obtain ⟨p0, p1, p2, p3, p4⟩ := rcC_at (hs.only oo3 (fun _ _ => by simp)) hx
      have ht : c.tomb = false:= by unfold opnA at q2; rw [hl] at q2; simpa using q2
      have e3 : nextA A r r.1 1 = ⟨r, c.made, (c.nth + 1) % M64, false⟩:= by unfold nextA; rw [hl]; simp [ht]
      rw [e3]
      obtain ⟨h5, h5e⟩ : ∃ h5, h5 = (h3.newCells 102 [.int .u64 (.ofNat 0), .int .u64 (.ofNat 0), .bool false, .int .u64 (.ofNat 0), .int .u64 (.ofNat 0)]).sts h3.nx 0 (rcC c) := ⟨_, rfl⟩
      unfold rcC at h5e
      rw [ht] at p2 h5e
      have o5 : Only h3 h5 []:= by rw [h5e]; exact ((Only.refl _ _).new _ _).sts (.inr (Nat.le_refl _))
      have i3 : cellAt h5 h3.nx 3 = some (.int .u64 (.ofNat c.made)):= by rw [h5e]; exact sT
      have i4 : cellAt h5 h3.nx 4 = some (.int .u64 (.ofNat c.nth)):= by rw [h5e]; exact sT
      have oo5 := oo3.t o5
      have nb : (b = h3.nx) = False:= by simp; have := oo3.1; omega
      have k03 := k0
      have xo5 := o5.1
      first | replace k0 := kcell k0 o5 (by omega) (by simp) | replace k0 := kwr k0 o5 (by omega) (by simp)
      first | replace r0 := kcell r0 o5 (by omega) (by simp) | replace r0 := kwr r0 o5 (by omega) (by simp)
      first | replace r1 := kcell r1 o5 (by omega) (by simp) | replace r1 := kwr r1 o5 (by omega) (by simp)
      first | replace z0 := kcell z0 o5 (by omega) (by simp) | replace z0 := kwr z0 o5 (by omega) (by simp)
      first | replace zw := kcell zw o5 (by omega) (by simp) | replace zw := kwr zw o5 (by omega) (by simp)
      refine rN ?_ (V k03<|V hlen<|V w1<|V lt1<|V nb<|V p0<|V p1<|V p2<|V p3<|V p4<|V h5e.symm<|V k0<|V r0<|V r1<|V i3<|V i4<|@u64_mod)
      refine ((rWithC h5 _ A ⟨r, c.made, (c.nth + 1) % M64, false⟩ (hr0.1.keep oo5) (by omega)).call P).mono P ?_
      rintro v h4 ⟨o4, hr4, hb4⟩
      obtain ⟨y, rfl, hyo, hyc⟩ := hr4.val
      have xo4 := o4.1
      first | replace z0 := kcell z0 o4 (by omega) (by simp) | replace z0 := kwr z0 o4 (by omega) (by simp)
      first | replace zw := kcell zw o4 (by omega) (by simp) | replace zw := kwr zw o4 (by omega) (by simp)
      repeat' (first | ((with_reducible refine st1 ?_); (conv => whnf); (with_reducible refine ⟨?_⟩)) | ((with_reducible refine retW_intro rfl ?_); (conv => arg 2; whnf)) | ((with_reducible first | refine iB ?_ ?_ | refine gWt ?_ ?_ | refine gWf ?_ ?_) <;> intro hb <;> (try simp only [hb])) | (simp only [B, F, reduceLT, reduceLeDiff, reduceEqDiff, reduceAdd, reduceMul, reduceSub, ↓reduceIte, eq_self, z0, zw, put_sts, hyo, hyc, cellAt_sts zw]))
      obtain ⟨f1, f2⟩ := put_box (p := p) (oo5.t o4) rfl ⟨hr4, fun y e b q => hp b (by have := hb4 y e b q; omega)⟩ (fun b q => by have := hb4 y rfl b q; omega)
      exact ⟨f1, _, rfl, f2⟩
end
end Go.Proofs.YtlkngpckibidlaaGreat.W

namespace Go.Proofs.YtlkngpckibidlaaGreat.W
open Go Go.AX
noncomputable section
set_option maxRecDepth 100000
def restAP (A : List Ch) (r : Rv) (made nth : Nat) : List Ch := if restA A r made nth then A ++ [nextA A r made nth] else A
def restAE (A : List Ch) (r : Rv) (made nth : Nat) : Nat := if restA A r made nth then 0 else 2
theorem restA_next {A : List Ch} {r : Rv} {made nth : Nat} (h : restA A r made nth = true) (hn : nth < M64) : nextA A r made nth = ⟨r, made, nth, false⟩ := by
 unfold restA at h
 unfold nextA
 simp only [Bool.and_eq_true] at h
 have h5 := h.2
 cases hl : A.getLast? with
 | none => rw [Nat.mod_eq_of_lt hn]
 | some c =>
  rw [hl] at h5
  simp only at h5 ⊢
  cases ht : c.tomb with
  | true => rw [if_pos rfl, Nat.mod_eq_of_lt hn]
  | false =>
   rw [ht, if_neg (by simp), Bool.and_eq_true, decide_eq_true_eq, decide_eq_true_eq] at h5
   rw [if_neg (by simp), h5.1, ← h5.2]
theorem rRestC (p : Nat → Prop) (h : H) (v : AV) (A : List Ch) (r : Rv) (made nth : Nat) (hp : ∀ b, h.nx ≤ b → p b) (hr : RefP p h v A) (hz : A.length ≤ 900) (hnth : nth < M64) :
  PushC P (.enter 28 [v, rvA r, n64 made, n64 nth] h) (PostRE p h (restAP A r made nth) (restAE A r made nth)) := by
 have hr0 := hr
 obtain ⟨⟨s, rfl, hs, hn⟩, hpb⟩ := hr
 have hso := SliceAt.one hs
 have hsc := SliceAt.cells hs
 have hlen := hs.len (P := P) u60
 have e0 : rvA r = .agg [.int .u64 (.ofNat r.1), .int .u64 (.ofNat r.2)] := rfl
 rw [e0]
 unfold n64
 refine pushC_of_codeW (fn := Tryz.f28) (c := bodyC Tryz.f28) Tryz.func28 rfl ?_
 show codeW P 28 77 none _ _ _ _ _
 refine codeW_root ?_
 refine rN ?_ (hso)
 obtain ⟨h1, h1e, o1, x1, k0, r0, r1, z0, zw⟩ := boxes2 h s r
 rw [← h1e]
 refine ((rFitsC h1 _ A r (hr0.1.keep o1) (by omega)).call P).mono P ?_
 rintro v h2 ⟨rfl, o2⟩
 have xo2 := o2.1
 first | replace k0 := kcell k0 o2 (by omega) (by simp) | replace k0 := kwr k0 o2 (by omega) (by simp)
 first | replace r0 := kcell r0 o2 (by omega) (by simp) | replace r0 := kwr r0 o2 (by omega) (by simp)
 first | replace r1 := kcell r1 o2 (by omega) (by simp) | replace r1 := kwr r1 o2 (by omega) (by simp)
 first | replace z0 := kcell z0 o2 (by omega) (by simp) | replace z0 := kwr z0 o2 (by omega) (by simp)
 first | replace zw := kcell zw o2 (by omega) (by simp) | replace zw := kwr zw o2 (by omega) (by simp)
 have oo := o1.t o2
 have hsb : ∀ b, blkOf s = some b → b ≠ h.nx + 2 := fun b q => by have := hs.blk b q; omega
 have no : ∀ {x}, restA A r made nth = x → x = false → restAP A r made nth = A ∧ restAE A r made nth = 2 := fun e q => by unfold restAP restAE; rw [e, q]; exact ⟨rfl, rfl⟩
 have f0 := put_box (p := p) oo rfl (hr0.keep0 oo) hsb
 by_cases hq : (fitA A r && !decide (made = 0) && !decide (r.1 < made) && !decide (nth = 0)) = true
 ·have hq0 := hq
  simp only [Bool.and_eq_true, Bool.not_eq_true'] at hq
  obtain ⟨⟨⟨q1, q2⟩, q3⟩, q4⟩ := hq
  rw [q1]
  refine rN ?_ (V k0<|V r0<|V q2<|V q3<|V q4<|V @Bool.not_true<|@Bool.not_false)
  refine ((rOpenC h2 _ A (hr0.1.keep oo) (by omega)).call P).mono P ?_
  rintro v h3 ⟨rfl, o3⟩
  have xo3 := o3.1
  first | replace k0 := kcell k0 o3 (by omega) (by simp) | replace k0 := kwr k0 o3 (by omega) (by simp)
  first | replace r0 := kcell r0 o3 (by omega) (by simp) | replace r0 := kwr r0 o3 (by omega) (by simp)
  first | replace r1 := kcell r1 o3 (by omega) (by simp) | replace r1 := kwr r1 o3 (by omega) (by simp)
  first | replace z0 := kcell z0 o3 (by omega) (by simp) | replace z0 := kwr z0 o3 (by omega) (by simp)
  first | replace zw := kcell zw o3 (by omega) (by simp) | replace zw := kwr zw o3 (by omega) (by simp)
  have oo3 := oo.t o3
  have f3 := put_box (p := p) oo3 rfl (hr0.keep0 oo3) hsb
  have hres : restA A r made nth = (match A.getLast? with | none => true | some c => if c.tomb then decide (c.rev.1 < made) else decide (made = c.made) && decide (nth = (c.nth + 1) % M64)) := by
   unfold restA; rw [hq0, Bool.true_and]; rfl
  -- what is put
  have fin : ∀ (hX : H), Only h hX [] → restA A r made nth = true → Only h hX [] ∧ restAP A r made nth = A ++ [⟨r, made, nth, false⟩] ∧ restAE A r made nth = 0 := fun hX o q => ⟨o, by unfold restAP; rw [q, if_pos rfl, restA_next q hnth], by unfold restAE; rw [q]; rfl⟩
  by_cases hA : A = []
  ·subst hA
   have q5 : opnA [] = false := rfl
   have d0 : decide (0 < ([] : List Ch).length) = false := rfl
   obtain ⟨-, e1, e2⟩ := fin h3 oo3 (by rw [hres]; rfl)
   rw [q5, e1, e2]
   unfold PostRE errV
   refine rN ?_ (V k0<|V r0<|V r1<|V hlen<|d0)
   refine ((rWithC h3 _ [] ⟨r, made, nth, false⟩ (hr0.1.keep oo3) (by simp)).call P).mono P ?_
   rintro v h4 ⟨o4, hr4, hb4⟩
   obtain ⟨y, rfl, hyo, hyc⟩ := hr4.val
   have xo4 := o4.1
   first | replace z0 := kcell z0 o4 (by omega) (by simp) | replace z0 := kwr z0 o4 (by omega) (by simp)
   first | replace zw := kcell zw o4 (by omega) (by simp) | replace zw := kwr zw o4 (by omega) (by simp)
   repeat' (first | ((with_reducible refine st1 ?_); (conv => whnf); (with_reducible refine ⟨?_⟩)) | ((with_reducible refine retW_intro rfl ?_); (conv => arg 2; whnf)) | ((with_reducible first | refine iB ?_ ?_ | refine gWt ?_ ?_ | refine gWf ?_ ?_) <;> intro hb <;> (try simp only [hb])) | (simp only [B, F, reduceLT, reduceLeDiff, reduceEqDiff, reduceAdd, reduceMul, reduceSub, ↓reduceIte, eq_self, z0, zw, put_sts, hyo, hyc, cellAt_sts zw]))
   obtain ⟨f1, f2⟩ := put_box (p := p) (oo3.t o4) rfl ⟨hr4, fun y e b q => hp b (by have := hb4 y e b q; omega)⟩ (fun b q => by have := hb4 y rfl b q; omega)
   exact ⟨f1, _, rfl, f2⟩
  ·obtain ⟨b, o, cap, c, rfl, hb, hl, hx, w1, lt1, dp, d0⟩ := ref_last hs hA (by omega)
   obtain ⟨p0, p1, p2, p3, p4⟩ := rcC_at (hs.only oo3 (fun _ _ => by simp)) hx
   rw [hl] at hres
   simp only at hres
   have hop : opnA A = !c.tomb:= by unfold opnA; rw [hl]
   cases ht : c.tomb with
   | true =>
    rw [ht, if_pos rfl] at hres
    rw [hop, ht]
    cases q5 : decide (made ≤ c.rev.1) with
    | true =>
     obtain ⟨e1, e2⟩ := no hres (decide_eq_false (by have := of_decide_eq_true q5; omega))
     rw [e1, e2]
     unfold PostRE errV
     repeat' (first | ((with_reducible refine st1 ?_); (conv => whnf); (with_reducible refine ⟨?_⟩)) | ((with_reducible refine retW_intro rfl ?_); (conv => arg 2; whnf)) | ((with_reducible first | refine iB ?_ ?_ | refine gWt ?_ ?_ | refine gWf ?_ ?_) <;> intro hb <;> (try simp only [hb])) | (simp only [B, F, reduceLT, reduceLeDiff, reduceEqDiff, reduceAdd, reduceMul, reduceSub, ↓reduceIte, eq_self, k0, z0, zw, put_sts, hso, hsc, cellAt_sts zw, hlen, dp, w1, lt1, p0, q5, Bool.not_true]))
     exact ⟨f3.1, _, rfl, f3.2⟩
    | false =>
     obtain ⟨-, e1, e2⟩ := fin h3 oo3 (by rw [hres]; exact decide_eq_true (by have := of_decide_eq_false q5; omega))
     rw [e1, e2]
     unfold PostRE errV
     refine rN ?_ (V k0<|V r0<|V r1<|V hlen<|V dp<|V w1<|V lt1<|V p0<|V q5<|@Bool.not_true)
     refine ((rWithC h3 _ A ⟨r, made, nth, false⟩ (hr0.1.keep oo3) (by omega)).call P).mono P ?_
     rintro v h4 ⟨o4, hr4, hb4⟩
     obtain ⟨y, rfl, hyo, hyc⟩ := hr4.val
     have xo4 := o4.1
     first | replace z0 := kcell z0 o4 (by omega) (by simp) | replace z0 := kwr z0 o4 (by omega) (by simp)
     first | replace zw := kcell zw o4 (by omega) (by simp) | replace zw := kwr zw o4 (by omega) (by simp)
     repeat' (first | ((with_reducible refine st1 ?_); (conv => whnf); (with_reducible refine ⟨?_⟩)) | ((with_reducible refine retW_intro rfl ?_); (conv => arg 2; whnf)) | ((with_reducible first | refine iB ?_ ?_ | refine gWt ?_ ?_ | refine gWf ?_ ?_) <;> intro hb <;> (try simp only [hb])) | (simp only [B, F, reduceLT, reduceLeDiff, reduceEqDiff, reduceAdd, reduceMul, reduceSub, ↓reduceIte, eq_self, z0, zw, put_sts, hyo, hyc, cellAt_sts zw]))
     obtain ⟨f1, f2⟩ := put_box (p := p) (oo3.t o4) rfl ⟨hr4, fun y e b q => hp b (by have := hb4 y e b q; omega)⟩ (fun b q => by have := hb4 y rfl b q; omega)
     exact ⟨f1, _, rfl, f2⟩
   | false =>
    rw [ht, if_neg (by simp)] at hres
    rw [hop, ht]
    obtain ⟨h5, h5e⟩ : ∃ h5, h5 = (h3.newCells 102 [.int .u64 (.ofNat 0), .int .u64 (.ofNat 0), .bool false, .int .u64 (.ofNat 0), .int .u64 (.ofNat 0)]).sts h3.nx 0 (rcC c) := ⟨_, rfl⟩
    unfold rcC at h5e
    rw [ht] at p2 h5e
    have o5 : Only h3 h5 []:= by rw [h5e]; exact ((Only.refl _ _).new _ _).sts (.inr (Nat.le_refl _))
    have i2 : cellAt h5 h3.nx 3 = some (.int .u64 (.ofNat c.made)):= by rw [h5e]; exact sT
    have i4 : cellAt h5 h3.nx 4 = some (.int .u64 (.ofNat c.nth)):= by rw [h5e]; exact sT
    have oo5 := oo3.t o5
    have nb : (b = h3.nx) = False:= by simp; have := oo3.1; omega
    have k03 := k0
    have xo5 := o5.1
    first | replace k0 := kcell k0 o5 (by omega) (by simp) | replace k0 := kwr k0 o5 (by omega) (by simp)
    first | replace r0 := kcell r0 o5 (by omega) (by simp) | replace r0 := kwr r0 o5 (by omega) (by simp)
    first | replace r1 := kcell r1 o5 (by omega) (by simp) | replace r1 := kwr r1 o5 (by omega) (by simp)
    first | replace z0 := kcell z0 o5 (by omega) (by simp) | replace z0 := kwr z0 o5 (by omega) (by simp)
    first | replace zw := kcell zw o5 (by omega) (by simp) | replace zw := kwr zw o5 (by omega) (by simp)
    have f5 := put_box (p := p) oo5 rfl (hr0.keep0 oo5) hsb
    cases q5 : decide (made = c.made) with
    | false =>
     rw [q5] at hres
     obtain ⟨e1, e2⟩ := no hres rfl
     rw [e1, e2]
     unfold PostRE errV
     repeat' (first | ((with_reducible refine st1 ?_); (conv => whnf); (with_reducible refine ⟨?_⟩)) | ((with_reducible refine retW_intro rfl ?_); (conv => arg 2; whnf)) | ((with_reducible first | refine iB ?_ ?_ | refine gWt ?_ ?_ | refine gWf ?_ ?_) <;> intro hb <;> (try simp only [hb])) | (simp only [B, F, reduceLT, reduceLeDiff, reduceEqDiff, reduceAdd, reduceMul, reduceSub, ↓reduceIte, eq_self, k03, z0, zw, put_sts, hso, hsc, cellAt_sts zw, hlen, w1, lt1, nb, p0, p1, p2, p3, p4, ← h5e, k0, i2, i4, q5, Bool.not_false]))
     exact ⟨f5.1, _, rfl, f5.2⟩
    | true =>
     rw [q5, Bool.true_and] at hres
     cases q6 : decide (nth = (c.nth + 1) % M64) with
     | false =>
      rw [q6] at hres
      obtain ⟨e1, e2⟩ := no hres rfl
      rw [e1, e2]
      unfold PostRE errV
      repeat' (first | ((with_reducible refine st1 ?_); (conv => whnf); (with_reducible refine ⟨?_⟩)) | ((with_reducible refine retW_intro rfl ?_); (conv => arg 2; whnf)) | ((with_reducible first | refine iB ?_ ?_ | refine gWt ?_ ?_ | refine gWf ?_ ?_) <;> intro hb <;> (try simp only [hb])) | (simp only [B, F, reduceLT, reduceLeDiff, reduceEqDiff, reduceAdd, reduceMul, reduceSub, ↓reduceIte, eq_self, k03, z0, zw, put_sts, hso, hsc, cellAt_sts zw, hlen, w1, lt1, nb, p0, p1, p2, p3, p4, ← h5e, k0, i2, i4, q5, q6, u64_mod, Bool.not_false, Bool.not_true]))
      exact ⟨f5.1, _, rfl, f5.2⟩
     | true =>
      rw [q6] at hres
      obtain ⟨-, e1, e2⟩ := fin h5 oo5 hres
      rw [e1, e2]
      unfold PostRE errV
      refine rN ?_ (V k03<|V hso<|V hsc<|V hlen<|V w1<|V lt1<|V nb<|V p0<|V p1<|V p2<|V p3<|V p4<|V h5e.symm<|V k0<|V r0<|V r1<|V i2<|V i4<|V q5<|V q6<|V @u64_mod<|V @Bool.not_false<|@Bool.not_true)
      refine ((rWithC h5 _ A ⟨r, made, nth, false⟩ (hr0.1.keep oo5) (by omega)).call P).mono P ?_
      rintro v h4 ⟨o4, hr4, hb4⟩
      obtain ⟨y, rfl, hyo, hyc⟩ := hr4.val
      have xo4 := o4.1
      first | replace z0 := kcell z0 o4 (by omega) (by simp) | replace z0 := kwr z0 o4 (by omega) (by simp)
      first | replace zw := kcell zw o4 (by omega) (by simp) | replace zw := kwr zw o4 (by omega) (by simp)
      repeat' (first | ((with_reducible refine st1 ?_); (conv => whnf); (with_reducible refine ⟨?_⟩)) | ((with_reducible refine retW_intro rfl ?_); (conv => arg 2; whnf)) | ((with_reducible first | refine iB ?_ ?_ | refine gWt ?_ ?_ | refine gWf ?_ ?_) <;> intro hb <;> (try simp only [hb])) | (simp only [B, F, reduceLT, reduceLeDiff, reduceEqDiff, reduceAdd, reduceMul, reduceSub, ↓reduceIte, eq_self, z0, zw, put_sts, hyo, hyc, cellAt_sts zw]))
      obtain ⟨f1, f2⟩ := put_box (p := p) (oo5.t o4) rfl ⟨hr4, fun y e b q => hp b (by have := hb4 y e b q; omega)⟩ (fun b q => by have := hb4 y rfl b q; omega)
      exact ⟨f1, _, rfl, f2⟩
 ·have hres : restA A r made nth = false := by
   unfold restA
   rw [Bool.not_eq_true] at hq
   rw [hq]; rfl
  obtain ⟨e1, e2⟩ := no hres rfl
  rw [e1, e2]
  unfold PostRE errV
  cases q1 : fitA A r with
  | false =>
   repeat' (first | ((with_reducible refine st1 ?_); (conv => whnf); (with_reducible refine ⟨?_⟩)) | ((with_reducible refine retW_intro rfl ?_); (conv => arg 2; whnf)) | ((with_reducible first | refine iB ?_ ?_ | refine gWt ?_ ?_ | refine gWf ?_ ?_) <;> intro hb <;> (try simp only [hb])) | (simp only [B, F, reduceLT, reduceLeDiff, reduceEqDiff, reduceAdd, reduceMul, reduceSub, ↓reduceIte, eq_self, k0, z0, zw, put_sts, hso, hsc, cellAt_sts zw, r0, Bool.not_false]))
   exact ⟨f0.1, _, rfl, f0.2⟩
  | true =>
   cases q2 : decide (made = 0) with
   | true =>
    repeat' (first | ((with_reducible refine st1 ?_); (conv => whnf); (with_reducible refine ⟨?_⟩)) | ((with_reducible refine retW_intro rfl ?_); (conv => arg 2; whnf)) | ((with_reducible first | refine iB ?_ ?_ | refine gWt ?_ ?_ | refine gWf ?_ ?_) <;> intro hb <;> (try simp only [hb])) | (simp only [B, F, reduceLT, reduceLeDiff, reduceEqDiff, reduceAdd, reduceMul, reduceSub, ↓reduceIte, eq_self, k0, z0, zw, put_sts, hso, hsc, cellAt_sts zw, r0, q2, Bool.not_true]))
    exact ⟨f0.1, _, rfl, f0.2⟩
   | false =>
    cases q3 : decide (r.1 < made) with
    | true =>
     repeat' (first | ((with_reducible refine st1 ?_); (conv => whnf); (with_reducible refine ⟨?_⟩)) | ((with_reducible refine retW_intro rfl ?_); (conv => arg 2; whnf)) | ((with_reducible first | refine iB ?_ ?_ | refine gWt ?_ ?_ | refine gWf ?_ ?_) <;> intro hb <;> (try simp only [hb])) | (simp only [B, F, reduceLT, reduceLeDiff, reduceEqDiff, reduceAdd, reduceMul, reduceSub, ↓reduceIte, eq_self, k0, z0, zw, put_sts, hso, hsc, cellAt_sts zw, r0, q2, q3, Bool.not_true]))
     exact ⟨f0.1, _, rfl, f0.2⟩
    | false =>
     cases q4 : decide (nth = 0) with
     | true =>
      repeat' (first | ((with_reducible refine st1 ?_); (conv => whnf); (with_reducible refine ⟨?_⟩)) | ((with_reducible refine retW_intro rfl ?_); (conv => arg 2; whnf)) | ((with_reducible first | refine iB ?_ ?_ | refine gWt ?_ ?_ | refine gWf ?_ ?_) <;> intro hb <;> (try simp only [hb])) | (simp only [B, F, reduceLT, reduceLeDiff, reduceEqDiff, reduceAdd, reduceMul, reduceSub, ↓reduceIte, eq_self, k0, z0, zw, put_sts, hso, hsc, cellAt_sts zw, r0, q2, q3, q4, Bool.not_true]))
      exact ⟨f0.1, _, rfl, f0.2⟩
     | false => rw [q1, q2, q3, q4] at hq; exact absurd rfl hq
def keepAt (k : Int) (i : Nat) (c : Ch) : Bool := decide (k < Int.ofNat i) || (decide (Int.ofNat i = k) && !c.tomb)
def accT (A : List Ch) (k : Int) : Nat → List Ch
 | 0 => []
 | i + 1 => match A[i]? with
  | some c => if keepAt k i c then accT A k i ++ [c] else accT A k i
  | none => accT A k i
def kepT (A : List Ch) (k : Int) : Nat → List Rv
 | 0 => []
 | i + 1 => match A[i]? with
  | some c => if decide (Int.ofNat i = k) && !c.tomb then kepT A k i ++ [c.rev] else kepT A k i
  | none => kepT A k i
theorem accT_len (A : List Ch) (k : Int) : ∀ i, (accT A k i).length ≤ i ∧ (kepT A k i).length ≤ i
 | 0 => ⟨Nat.le_refl _, Nat.le_refl _⟩
 | i + 1 => by
  obtain ⟨h1, h2⟩ := accT_len A k i
  unfold accT kepT
  cases A[i]? with
  | none => exact ⟨by simp only; omega, by simp only; omega⟩
  | some c =>
   simp only
   constructor
   ·split
    ·simp; omega
    ·omega
   ·split
    ·simp; omega
    ·omega
theorem acc_all (A : List Ch) (m : Nat) (hr : Rising A) : accT A (lkT A m A.length) A.length = compA A m ∧ kepT A (lkT A m A.length) A.length = (isK A m).map (·.rev) := by
 obtain ⟨P, Q, hA, hP, hQ⟩ := split_at m hr
 have hcomp : compA A m = headK P ++ Q:= by rw [hA]; exact comp_split hP hQ
 have hisk : isK A m = headK P := by
  rw [hA, isK_split hP]
  have : lst (atP m) Q = none:= by unfold lst; rw [filter_none (p := atP m) (fun c hc => decide_eq_false (by have := hQ c hc; omega))]; rfl
  rw [this]
 obtain ⟨k, hk⟩ : ∃ k, k = lkT A m A.length := ⟨_, rfl⟩
 have hkv : k = Int.ofNat P.length - 1 := by
  rw [hk]
  have h1 : ∀ n, lkT A m (P.length + n) = lkT A m P.length := by
   intro n
   induction n with
   | zero => rfl
   | succ n ih =>
    rw [← Nat.add_assoc, lkT]
    cases hx : A[P.length + n]? with
    | none => exact ih
    | some c =>
     simp only
     rw [hA, List.getElem?_append_right (by omega)] at hx
     rw [if_neg (by have := hQ c (List.mem_of_getElem? hx); omega)]
     exact ih
  have h2 : A.length = P.length + Q.length:= by rw [hA, List.length_append]
  rw [h2, h1]
  cases hp : P.length with
  | zero => rfl
  | succ j =>
   have hx : A[j]? = some P[j]:= by rw [hA, List.getElem?_append_left (by omega)]; exact List.getElem?_eq_getElem (by omega)
   rw [lkT, hx]
   simp only
   rw [if_pos (hP _ (List.getElem_mem _))]
   show Int.ofNat j = Int.ofNat (j + 1) - 1
   simp
 rw [← hk, hcomp, hisk]
 -- ahead of the last one up to the Main
 have lo : ∀ i, i < P.length → accT A k i = [] ∧ kepT A k i = [] := by
  intro i
  induction i with
  | zero => intro _; exact ⟨rfl, rfl⟩
  | succ i ih =>
   intro hi
   obtain ⟨i1, i2⟩ := ih (by omega)
   unfold accT kepT
   have e1 : decide (k < Int.ofNat i) = false := decide_eq_false (by rw [hkv]; simp; omega)
   have e2 : decide (Int.ofNat i = k) = false := decide_eq_false (by rw [hkv]; simp; omega)
   cases A[i]? with
   | none => exact ⟨i1, i2⟩
   | some c =>
    simp only [keepAt, e1, e2, Bool.false_and, Bool.or_false]
    exact ⟨i1, i2⟩
 have mid : accT A k P.length = headK P ∧ kepT A k P.length = (headK P).map (·.rev) := by
  rcases list_last P with hP0 | ⟨Y, c, hP0⟩
  ·rw [hP0]; exact ⟨rfl, rfl⟩
  ·have hl : P.length = Y.length + 1:= by rw [hP0]; simp
   obtain ⟨i1, i2⟩ := lo Y.length (by omega)
   have hx : A[Y.length]? = some c:= by rw [hA, hP0]; simp
   rw [hl]
   unfold accT kepT
   rw [hx]
   have e1 : decide (k < Int.ofNat Y.length) = false := decide_eq_false (by rw [hkv]; simp; omega)
   have e2 : decide (Int.ofNat Y.length = k) = true := decide_eq_true (by rw [hkv]; simp; omega)
   simp only [keepAt, e1, e2, Bool.true_and, Bool.false_or, i1, i2, List.nil_append]
   have hh : headK P = if c.tomb then [] else [c]:= by unfold headK; rw [hP0]; simp
   rw [hh]
   cases c.tomb <;> exact ⟨rfl, rfl⟩
 have hi : ∀ n, accT A k (P.length + n) = headK P ++ Q.take n ∧ kepT A k (P.length + n) = (headK P).map (·.rev) := by
  intro n
  induction n with
  | zero => rw [Nat.add_zero, List.take_zero, List.append_nil]; exact mid
  | succ n ih =>
   obtain ⟨i1, i2⟩ := ih
   rw [← Nat.add_assoc]
   unfold accT kepT
   have hx : A[P.length + n]? = Q[n]?:= by rw [hA, List.getElem?_append_right (by omega)]; congr 1; omega
   have e1 : decide (k < Int.ofNat (P.length + n)) = true := decide_eq_true (by rw [hkv]; simp; omega)
   have e2 : decide (Int.ofNat (P.length + n) = k) = false := decide_eq_false (by rw [hkv]; simp; omega)
   rw [hx, List.take_add_one]
   cases Q[n]? with
   | none => simp [i1, i2]
   | some c =>
    simp only [keepAt, e1, e2, Bool.true_or, Bool.false_and, if_true, i1, i2]
    exact ⟨by simp, rfl⟩
 have := hi Q.length
 rw [List.take_length, ← List.length_append, ← hA] at this
 exact this
end
end Go.Proofs.YtlkngpckibidlaaGreat.W

namespace Go.Proofs.YtlkngpckibidlaaGreat.W
open Go Go.AX
noncomputable section
set_option maxRecDepth 100000
structure RcI (hs : H) (b2 b4 : Nat) (s : AV) (A : List Ch) (k : Int) (n : Nat) (ds : List Nat) (tm : T AV) (h : H) (i : Nat) (w u : AV) : Prop where
 ds : ds = []
 nn : n = A.length - i
 ii : i ≤ A.length
 t2 : tm.get 2 = some (.ptr b2 0)
 t4 : tm.get 4 = some (.ptr b4 0)
 t6 : tm.get 6 = some (.int .i64 k)
 t7 : tm.get 7 = some w
 t8 : tm.get 8 = some u
 t9 : tm.get 9 = some (.int .i64 (.ofNat i))
 oo : Only hs h []
 gw : Grows 5 hs.nx h w (accT A k i).length (rcsC (accT A k i))
 gu : Grows 2 hs.nx h u (kepT A k i).length (rvsC (kepT A k i))
 ne : ∀ b, blkOf w = some b → blkOf u ≠ some b
 nl : accT A k i = [] → w = .nilslice
theorem grows_keep {size base : Nat} {h h' : H} {v : AV} {n : Nat} {cs : List AV} (g : Grows size base h v n cs) (o : Only h h' []) : Grows size base h' v n cs :=
 g.of_get o.1 (fun b hb => o.2 b (g.base hb).2 (by simp))
theorem rCompC (p : Nat → Prop) (h : H) (v : AV) (A : List Ch) (m : Nat) (hp : ∀ b, h.nx ≤ b → p b) (hr : RefP p h v A) (hz : A.length ≤ 900) (hri : Rising A) :
  PushC P (.enter 34 [v, n64 m] h) fun v h' => Only h h' [] ∧ ∃ g u, v = .tuple [g, u] ∧ RefP p h' g (compA A m) ∧ Grows 2 h.nx h' u ((isK A m).map (·.rev)).length (rvsC ((isK A m).map (·.rev))) := by
 have hr0 := hr
 obtain ⟨⟨s, rfl, hs, hn⟩, hpb⟩ := hr
 have hso := SliceAt.one hs
 have hsc := SliceAt.cells hs
 have hlen := hs.len (P := P) u60
 unfold n64
 refine pushC_of_codeW (fn := Tryz.f34) (c := bodyC Tryz.f34) Tryz.func34 rfl ?_
 show codeW P 34 63 none _ _ _ _ _
 refine codeW_root ?_
 refine rN ?_ (hso)
 obtain ⟨h1, h1e⟩ : ∃ h1, h1 = (h.newCells 62 [s]).newCells 62 [.nilslice] := ⟨_, rfl⟩
 have o1 : Only h h1 []:= by rw [h1e]; exact ((Only.refl _ _).new _ _).new _ _
 have x1 : h1.nx = h.nx + 2:= by rw [h1e]; rfl
 have k0 : cellAt h1 h.nx 0 = some s:= by rw [h1e]; exact sT
 have z0 : cellAt h1 (h.nx + 1) 0 = some .nilslice:= by rw [h1e]; exact sT
 have zw : wrAt h1 (h.nx + 1) = true:= by rw [h1e]; exact sT
 rw [← h1e]
 refine ((rLastC h1 _ A m (hr0.1.keep o1) (by omega)).call P).mono P ?_
 rintro v h2 ⟨rfl, o2⟩
 obtain ⟨hacc, hkep⟩ := acc_all A m hri
 obtain ⟨k, hk⟩ : ∃ k, k = lkT A m A.length := ⟨_, rfl⟩
 rw [← hk] at hacc hkep ⊢
 have xo2 := o2.1
 first | replace k0 := kcell k0 o2 (by omega) (by simp) | replace k0 := kwr k0 o2 (by omega) (by simp)
 first | replace z0 := kcell z0 o2 (by omega) (by simp) | replace z0 := kwr z0 o2 (by omega) (by simp)
 first | replace zw := kcell zw o2 (by omega) (by simp) | replace zw := kwr zw o2 (by omega) (by simp)
 have oo := o1.t o2
 have hsh := hs.only oo (fun _ _ => by simp)
 refine rN0 ?_
 refine st_loop (fun n ds tm h' => ∃ i w u, RcI h2 h.nx (h.nx + 1) s A k n ds tm h' i w u) A.length rfl
  ⟨0, .nilslice, .nilslice, rfl, rfl, Nat.zero_le _, by exact sT, by exact sT, by exact sT, by exact sT, by exact sT, by exact sT, Only.refl _ _, Grows.none, Grows.none, (fun b q => by cases q), fun _ => rfl⟩ (fun n ds tm h3 hI => ?_)
 obtain ⟨i, w, u, rfl, rfl, ii, t2, t4, t6, t7, t8, t9, o3, gw, gu, ne, nl⟩ := hI
 have k02 := k0
 have xo3 := o3.1
 first | replace k0 := kcell k0 o3 (by omega) (by simp) | replace k0 := kwr k0 o3 (by omega) (by simp)
 first | replace z0 := kcell z0 o3 (by omega) (by simp) | replace z0 := kwr z0 o3 (by omega) (by simp)
 first | replace zw := kcell zw o3 (by omega) (by simp) | replace zw := kwr zw o3 (by omega) (by simp)
 have hs3 := hsh.only o3 (fun _ _ => by simp)
 have gwo := gw.one
 have guo := gu.one
 obtain ⟨la, lk⟩ := accT_len A k i
 by_cases hi : i < A.length
 ·have d1 : decide (i < A.length) = true := decide_eq_true hi
  have lt1 : (i < A.length) = True:= by simp [hi]
  have w1 : wrapF .i64 (Int.ofNat i + Int.ofNat 1) = Int.ofNat (i + 1) := i64_add (by omega)
  obtain ⟨c, hc⟩ : ∃ c, A[i]? = some c := ⟨_, List.getElem?_eq_getElem hi⟩
  obtain ⟨b, o, cap, rfl, hb, -⟩ := hs.place (by omega)
  obtain ⟨p0, p1, p2, p3, p4⟩ := rcC_at hs3 hc
  have xx := oo.1
  -- one more of what is left
  obtain ⟨hA, hAe⟩ : ∃ hA, hA = h3.newCells 102 (rcC c) := ⟨_, rfl⟩
  have oA : Only h3 hA []:= by rw [hAe]; exact (Only.refl _ _).new _ _
  have xA : hA.nx = h3.nx + 1:= by rw [hAe]; rfl
  unfold rcC at hAe
  have i0 : cellAt hA h3.nx 0 = some (.int .u64 (.ofNat c.rev.1)):= by rw [hAe]; exact sT
  have i1 : cellAt hA h3.nx 1 = some (.int .u64 (.ofNat c.rev.2)):= by rw [hAe]; exact sT
  have i2 : cellAt hA h3.nx 2 = some (.bool c.tomb):= by rw [hAe]; exact sT
  have i3 : cellAt hA h3.nx 3 = some (.int .u64 (.ofNat c.made)):= by rw [hAe]; exact sT
  have i4 : cellAt hA h3.nx 4 = some (.int .u64 (.ofNat c.nth)):= by rw [hAe]; exact sT
  have gwA := grows_keep gw oA
  have guA := grows_keep gu oA
  cases q1 : decide (k < Int.ofNat i) with
  | true =>
   have q2 : decide (Int.ofNat i = k) = false := decide_eq_false (by have := of_decide_eq_true q1; omega)
   have ea : accT A k (i + 1) = accT A k i ++ [c]:= by rw [accT, hc]; simp only [keepAt, q1, Bool.true_or, if_true]
   have ek : kepT A k (i + 1) = kepT A k i:= by rw [kepT, hc]; simp only [q2, Bool.false_and]; rfl
   refine rN ?_ (V t2<|V t6<|V t7<|V t8<|V t9<|V k0<|V hlen<|V d1<|V lt1<|V q1<|V p0<|V p1<|V p2<|V p3<|V p4<|V hAe.symm<|V gwo<|V i0<|V i1<|V i2<|V i3<|i4)
   refine exW_grows (m := 1) (new := rcC c) gwA (by omega) (by omega) (by omega) rfl (by omega) (fun v' h4 gr4 x4 old4 blk4 => ?_)
   rw [rcs_snoc] at gr4
   have o4 : Only h2 h4 [] := ⟨by have := o3.1; omega, fun b hb _ => by
    have := o3.1
    rw [old4 b (by omega) (fun q => by have := (gwA.base q).1; omega)]; exact (o3.t oA).2 b hb (by simp)⟩
   have go4 := gr4.one
   have gu4 := guA.of_get (by omega) (fun b hb => old4 b (guA.base hb).2 (fun q => ne b q hb))
   refine rN ?_ (V t2<|V t6<|V t7<|V t8<|V t9<|V w1<|go4)
   exact ⟨A.length - (i + 1), by omega, i + 1, v', u, rfl, rfl, hi, by exact sT, by exact sT, by exact sT, by exact sT, by exact sT, by exact sT, o4, by rw [ea, List.length_append]; exact gr4, by rw [ek]; exact gu4, fun b q q2 => by rw [blk4] at q; cases q; have := (guA.base q2).2; omega, fun e => by rw [ea] at e; simp at e⟩
  | false =>
   cases q2 : decide (Int.ofNat i = k) with
   | false =>
    have q3 : (Int.ofNat i == k) = false := beq_eq_false_iff_ne.2 (of_decide_eq_false q2)
    have ea : accT A k (i + 1) = accT A k i:= by rw [accT, hc]; simp only [keepAt, q1, q2, Bool.false_and, Bool.or_false]; rfl
    have ek : kepT A k (i + 1) = kepT A k i:= by rw [kepT, hc]; simp only [q2, Bool.false_and]; rfl
    refine rN ?_ (V t2<|V t6<|V t7<|V t8<|V t9<|V k0<|V hlen<|V d1<|V lt1<|V q1<|V q3<|V p0<|V p1<|V p2<|V p3<|V p4<|w1)
    exact ⟨A.length - (i + 1), by omega, i + 1, w, u, rfl, rfl, hi, by exact sT, by exact sT, by exact sT, by exact sT, by exact sT, by exact sT, o3, by rw [ea]; exact gw, by rw [ek]; exact gu, ne, by rw [ea]; exact nl⟩
   | true =>
    have q3 : (Int.ofNat i == k) = true := beq_iff_eq.2 (of_decide_eq_true q2)
    cases ht : c.tomb with
    | true =>
     have ea : accT A k (i + 1) = accT A k i:= by rw [accT, hc]; simp only [keepAt, q1, q2, ht, Bool.not_true, Bool.and_false, Bool.or_false]; rfl
     have ek : kepT A k (i + 1) = kepT A k i:= by rw [kepT, hc]; simp only [q2, ht, Bool.not_true, Bool.and_false]; rfl
     rw [ht] at p2
     refine rN ?_ (V t2<|V t6<|V t7<|V t8<|V t9<|V k0<|V hlen<|V d1<|V lt1<|V q1<|V q3<|V p0<|V p1<|V p2<|V p3<|V p4<|w1)
     exact ⟨A.length - (i + 1), by omega, i + 1, w, u, rfl, rfl, hi, by exact sT, by exact sT, by exact sT, by exact sT, by exact sT, by exact sT, o3, by rw [ea]; exact gw, by rw [ek]; exact gu, ne, by rw [ea]; exact nl⟩
    | false =>
     have ea : accT A k (i + 1) = accT A k i ++ [c]:= by rw [accT, hc]; simp only [keepAt, q1, q2, ht, Bool.not_false, Bool.and_true, Bool.or_true, if_true]
     have ek : kepT A k (i + 1) = kepT A k i ++ [c.rev]:= by rw [kepT, hc]; simp only [q2, ht, Bool.not_false, Bool.and_true, if_true]
     rw [ht] at p2 hAe i2
     refine rN ?_ (V t2<|V t6<|V t7<|V t8<|V t9<|V k0<|V hlen<|V d1<|V lt1<|V q1<|V q3<|V p0<|V p1<|V p2<|V p3<|V p4<|V hAe.symm<|V gwo<|V i0<|V i1<|V i2<|V i3<|i4)
     refine exW_grows (m := 1) gwA (by omega) (by omega) (by omega) rfl (by omega) (fun v' h4 gr4 x4 old4 blk4 => ?_)
     have erc : rcC c = [.int .u64 (.ofNat c.rev.1), .int .u64 (.ofNat c.rev.2), .bool false, .int .u64 (.ofNat c.made), .int .u64 (.ofNat c.nth)]:= by unfold rcC; rw [ht]
     rw [← erc, rcs_snoc] at gr4
     have x03 := o3.1
     have o4 : Only h2 h4 [] := ⟨by omega, fun b hb _ => by
      rw [old4 b (by omega) (fun q => by have := (gwA.base q).1; omega)]; exact (o3.t oA).2 b hb (by simp)⟩
     have o34 : Only h4 h4 [] := Only.refl _ _
     have go4 := gr4.one
     have gu4 := guA.of_get (by omega) (fun b hb => old4 b (guA.base hb).2 (fun q => ne b q hb))
     have k4 := kcell k02 o4 (by omega) (by simp)
     have p04 := (cellAt_of_get (old4 b (by omega) (fun q => by have := (gwA.base q).1; omega)) (o + i * 5)).trans (kcell p0 oA (by omega) (by simp))
     have p14 := (cellAt_of_get (old4 b (by omega) (fun q => by have := (gwA.base q).1; omega)) (o + (i * 5 + 1))).trans (kcell p1 oA (by omega) (by simp))
     obtain ⟨h5, h5e⟩ : ∃ h5, h5 = h4.newCells 31 [.int .u64 (.ofNat c.rev.1), .int .u64 (.ofNat c.rev.2)] := ⟨_, rfl⟩
     have o5 : Only h4 h5 []:= by rw [h5e]; exact (Only.refl _ _).new _ _
     have x5 : h5.nx = h4.nx + 1:= by rw [h5e]; rfl
     have j0 : cellAt h5 h4.nx 0 = some (.int .u64 (.ofNat c.rev.1)):= by rw [h5e]; exact sT
     have j1 : cellAt h5 h4.nx 1 = some (.int .u64 (.ofNat c.rev.2)):= by rw [h5e]; exact sT
     have gu5 := grows_keep gu4 o5
     have gr5 := grows_keep gr4 o5
     refine rN ?_ (V t2<|V t6<|V t7<|V t8<|V t9<|V hlen<|V lt1<|V go4<|V k4<|V p04<|V p14<|V h5e.symm<|V guo<|V j0<|j1)
     refine exW_grows (m := 1) (new := rvC c.rev) gu5 (by omega) (by omega) (by omega) rfl (by omega) (fun u' h6 gr6 x6 old6 blk6 => ?_)
     have e6 : rvsC (kepT A k i) ++ rvC c.rev = rvsC (kepT A k i ++ [c.rev]):= by simp [rvsC]
     rw [e6] at gr6
     have o6 : Only h2 h6 [] := ⟨by omega, fun b hb _ => by
      rw [old6 b (by omega) (fun q => by have := (gu5.base q).1; omega)]; exact (o4.t o5).2 b hb (by simp)⟩
     have go6 := gr6.one
     have ne6 : ∀ b, blkOf v' = some b → blkOf u ≠ some b := fun b q q2 => by rw [blk4] at q; cases q; have := (guA.base q2).2; omega
     have gr6' := gr5.of_get (by omega) (fun b hb => old6 b (gr5.base hb).2 (ne6 b hb))
     refine rN ?_ (V t2<|V t6<|V t7<|V t8<|V t9<|V w1<|go6)
     exact ⟨A.length - (i + 1), by omega, i + 1, v', u', rfl, rfl, hi, by exact sT, by exact sT, by exact sT, by exact sT, by exact sT, by exact sT, o6, by rw [ea, List.length_append]; exact gr6', by rw [ek, List.length_append]; exact gr6, fun b q q2 => by rw [blk6] at q2; rw [blk4] at q; simp only [Option.some.injEq] at q q2; omega, fun e => by rw [ea] at e; simp at e⟩
 ·have d1 : decide (i < A.length) = false := decide_eq_false hi
  obtain rfl : i = A.length:= by omega
  rw [hacc] at gw
  rw [hkep] at gu
  have gwc := gw.cells
  have hcl : (compA A m).length ≤ A.length:= by rw [compA_filter m hri]; exact List.length_filter_le _ _
  repeat' (first | ((with_reducible refine st1 ?_); (conv => whnf); (with_reducible refine ⟨?_⟩)) | ((with_reducible refine retW_intro rfl ?_); (conv => arg 2; whnf)) | ((with_reducible first | refine iB ?_ ?_ | refine gWt ?_ ?_ | refine gWf ?_ ?_) <;> intro hb <;> (try simp only [hb])) | (simp only [B, F, reduceLT, reduceLeDiff, reduceEqDiff, reduceAdd, reduceMul, reduceSub, ↓reduceIte, eq_self, t2, t4, t6, t7, t8, t9, k0, hlen, d1, gwo, gwc, z0, zw, put_sts, cellAt_sts zw]))
  have xx := o3.1
  have oF : Only h3 (h3.sts (h.nx + 1) 0 [w]) [h.nx + 1] := (Only.refl _ _).sts (.inl (by simp))
  refine ⟨(oo.t o3).sts (.inr (by omega)), _, u, rfl, ⟨⟨w, rfl, gw.slice.only oF (fun b q => by have := (gw.base q).1; simp; omega), fun e => ?_⟩, fun y e b q => by cases e; exact hp b (by have := (gw.base q).1; omega)⟩, ?_⟩
  ·rw [hacc] at nl; exact nl e
  ·exact (gu.of_get (by rw [nx_sts]; exact Nat.le_refl _) (fun b q => get_sts _ _ _ _ (by have := (gu.base q).1; omega))).weak (by omega)
end
end Go.Proofs.YtlkngpckibidlaaGreat.W

namespace Go.Proofs.YtlkngpckibidlaaGreat.X
open Go Go.AX
noncomputable section
set_option maxRecDepth 100000
theorem rLessC (h : H) (a b : W.Rv) : PushC P (.enter 64 [W.rvA a, W.rvA b] h) (W.Says h (.bool (W.above b a))) := by
 obtain ⟨a1, a2⟩ := a
 obtain ⟨b1, b2⟩ := b
 unfold W.rvA W.rvC
 refine pushC_of_codeW (fn := Tryz.f64) (c := bodyC Tryz.f64) Tryz.func64 rfl ?_
 show codeW P 64 24 none _ _ _ _ _
 refine codeW_root ?_
 repeat' (first | ((with_reducible refine st1 ?_); (conv => whnf); (with_reducible refine ⟨?_⟩)) | ((with_reducible refine retW_intro rfl ?_); (conv => arg 2; whnf)) | ((with_reducible first | refine iB ?_ ?_ | refine gWt ?_ ?_ | refine gWf ?_ ?_) <;> intro hb <;> (try simp only [hb])) | (simp only [B, F, reduceLT, reduceLeDiff, reduceEqDiff, reduceAdd, reduceMul, reduceSub, ↓reduceIte, eq_self]))
 all_goals refine ⟨?_, ((Only.refl _ _).new _ _).new _ _⟩
 all_goals (simp [W.above, *]; try (simp at *; omega))
def mayB (k : List Nat) : Bool := decide (1 ≤ k.length) && decide (k.length ≤ 16)
theorem mayB_iff (k : List Nat) : mayB k = true ↔ keyOk k := by
 unfold mayB keyOk
 rw [Bool.and_eq_true, decide_eq_true_eq, decide_eq_true_eq]
 constructor
 ·rintro ⟨a, b⟩; exact ⟨fun e => by subst e; simp at a, b⟩
 ·rintro ⟨a, b⟩; exact ⟨by have := List.length_pos_iff.2 a; omega, b⟩
theorem rMayC (h : H) (k : List Nat) : PushC P (.enter 19 [.str k] h) (W.Says h (.bool (mayB k))) := by
 unfold mayB
 refine pushC_of_codeW (fn := Tryz.f19) (c := bodyC Tryz.f19) Tryz.func19 rfl ?_
 show codeW P 19 11 none _ _ _ _ _
 refine codeW_root ?_
 repeat' (first | ((with_reducible refine st1 ?_); (conv => whnf); (with_reducible refine ⟨?_⟩)) | ((with_reducible refine retW_intro rfl ?_); (conv => arg 2; whnf)) | ((with_reducible first | refine iB ?_ ?_ | refine gWt ?_ ?_ | refine gWf ?_ ?_) <;> intro hb <;> (try simp only [hb])) | (simp only [B, F, reduceLT, reduceLeDiff, reduceEqDiff, reduceAdd, reduceMul, reduceSub, ↓reduceIte, eq_self]))
 ·exact ⟨by simp [hb], Only.refl _ _⟩
 ·exact ⟨by simp [hb], Only.refl _ _⟩
def inB (k key e : List Nat) : Bool := if e = [] then decide (k = key) else !listLtB k key && (decide (e = [0]) || listLtB k e)
theorem rInC (h : H) (k key e : List Nat) : PushC P (.enter 67 [.str k, .str key, .str e] h) (W.Says h (.bool (inB k key e))) := by
 have b0 : bytesOf { data := #[] } = [] := rfl
 have b1 : bytesOf { data := #[0] } = [0] := rfl
 unfold inB
 refine pushC_of_codeW (fn := Tryz.f67) (c := bodyC Tryz.f67) Tryz.func67 rfl ?_
 show codeW P 67 24 none _ _ _ _ _
 refine codeW_root ?_
 repeat' (first | ((with_reducible refine st1 ?_); (conv => whnf); (with_reducible refine ⟨?_⟩)) | ((with_reducible refine retW_intro rfl ?_); (conv => arg 2; whnf)) | ((with_reducible first | refine iB ?_ ?_ | refine gWt ?_ ?_ | refine gWf ?_ ?_) <;> intro hb <;> (try simp only [hb])) | (simp only [B, F, reduceLT, reduceLeDiff, reduceEqDiff, reduceAdd, reduceMul, reduceSub, ↓reduceIte, eq_self, b0, b1, b_geqS, b_lssS]))
 all_goals refine ⟨?_, Only.refl _ _⟩
 all_goals simp_all
structure RR where
 key : List Nat
 A : List W.Ch
 v : AV
def rrC (p : RR) : List AV := [.str p.key, p.v]
def rrsC (Q : List RR) : List AV := Q.flatMap rrC
theorem rrC_len (p : RR) : (rrC p).length = 2 := rfl
structure RIx (p : Nat → Prop) (h : H) (b : Nat) (Q : List RR) (s : AV) : Prop where
 lt : b < h.nx
 c0 : cellAt h b 0 = some s
 wr : wrAt h b = true
 sg : Grows 2 0 h s Q.length (rrsC Q)
 gg : ∀ r, r ∈ Q → W.RefP p h (.agg [r.v]) r.A
 bs : blkOf s ≠ some b
theorem RIx.keep {p : Nat → Prop} {h h' : H} {b : Nat} {Q : List RR} {s : AV} (hx : RIx p h b Q s) (ho : Only h h' []) : RIx p h' b Q s :=
 ⟨Nat.lt_of_lt_of_le hx.lt ho.1, W.kcell hx.c0 ho hx.lt (by simp), W.kwr hx.wr ho hx.lt (by simp), hx.sg.of_get ho.1 (fun c e => ho.2 c (hx.sg.base e).2 (by simp)), fun r hr => (hx.gg r hr).keep0 ho, hx.bs⟩
theorem RIx.sl {p : Nat → Prop} {h : H} {b : Nat} {Q : List RR} {s : AV} (hx : RIx p h b Q s) : SliceAt h s Q.length (rrsC Q) := hx.sg.slice
theorem rr_at {h : H} {b o n : Nat} {cap : Cap} {Q : List RR} (hs : SliceAt h (.slice b o n cap) n (rrsC Q)) {i : Nat} {x : RR} (hx : Q[i]? = some x) : cellAt h b (o + i * 2) = some (.str x.key) ∧ cellAt h b (o + (i * 2 + 1)) = some x.v := by
 have hc := fun j (hj : j < 2) => W.sl_cell rrC_len hs hx hj
 simp only [Nat.add_assoc] at hc
 exact ⟨hc 0 (by omega), hc 1 (by omega)⟩
def rAt (k : List Nat) (Q : List RR) : Nat := (Q.takeWhile fun r => listLtB r.key k).length
def rIs (k : List Nat) (Q : List RR) : Bool := match Q[rAt k Q]? with | some r => decide (r.key = k) | none => false
theorem rAt_le (k : List Nat) (Q : List RR) : rAt k Q ≤ Q.length := (List.takeWhile_sublist _).length_le
theorem rAt_lt {k : List Nat} : ∀ {Q : List RR} {i : Nat} {r : RR}, i < rAt k Q → Q[i]? = some r → listLtB r.key k = true
 | [], i, r, _, hr => by simp at hr
 | a :: Q, i, r, hi, hr => by
  unfold rAt at hi
  rw [List.takeWhile_cons] at hi
  split at hi
  ·rename_i ha
   cases i with
   | zero => simp at hr; subst hr; exact ha
   | succ i => simp at hr hi; exact rAt_lt (Q := Q) (by unfold rAt; omega) hr
  ·simp at hi
theorem rAt_end {k : List Nat} : ∀ {Q : List RR} {r : RR}, Q[rAt k Q]? = some r → listLtB r.key k = false
 | [], r, hr => by simp at hr
 | a :: Q, r, hr => by
  unfold rAt at hr
  rw [List.takeWhile_cons] at hr
  split at hr
  ·rename_i ha
   simp at hr; exact rAt_end (Q := Q) (by unfold rAt; exact hr)
  ·rename_i ha
   simp at hr; subst hr; simpa using ha
structure FnI (h0 : H) (b : Nat) (k : List Nat) (Q : List RR) (n : Nat) (ds : List Nat) (tm : T AV) (h : H) (i : Nat) : Prop where
 ds : ds = []
 nn : n = rAt k Q - i
 ii : i ≤ rAt k Q
 t0 : tm.get 0 = some (.ptr b 0)
 t1 : tm.get 1 = some (.str k)
 t6 : tm.get 6 = some (.int .i64 (.ofNat i))
 hh : h = h0
theorem rFindC {p : Nat → Prop} (h : H) (b : Nat) (k : List Nat) (Q : List RR) (s : AV) (hx : RIx p h b Q s) (hz : Q.length ≤ 100000) : PushC P (.enter 51 [.ptr b 0, .str k] h) (W.Says h (.tuple [.int .i64 (.ofNat (rAt k Q)), .bool (rIs k Q)])) := by
 have c0 := hx.c0
 have hso := W.SliceAt.one hx.sl
 have hlen := hx.sl.len (P := P) u26
 have hle := rAt_le k Q
 refine pushC_of_codeW (fn := Tryz.f51) (c := bodyC Tryz.f51) Tryz.func51 rfl ?_
 show codeW P 51 48 none _ _ _ _ _
 refine codeW_root ?_
 refine rN0 ?_
 refine st_loop (fun n ds tm h' => ∃ i, FnI h b k Q n ds tm h' i) (rAt k Q) rfl ⟨0, rfl, rfl, Nat.zero_le _, by exact sT, by exact sT, by exact sT, rfl⟩ (fun n ds tm h' hI => ?_)
 obtain ⟨i, rfl, rfl, ii, t0, t1, t6, rfl⟩ := hI
 by_cases hi : i < rAt k Q
 ·have hiQ : i < Q.length:= by omega
  have d1 : decide (i < Q.length) = true := decide_eq_true hiQ
  have lt1 : (i < Q.length) = True:= by simp [hiQ]
  have w1 : wrapF .i64 (Int.ofNat i + Int.ofNat 1) = Int.ofNat (i + 1) := i64_add (by omega)
  obtain ⟨r, hr⟩ : ∃ r, Q[i]? = some r := ⟨_, List.getElem?_eq_getElem hiQ⟩
  have hl := rAt_lt hi hr
  have hsl := hx.sl
  obtain ⟨bl, o, cap, rfl, hbl, -⟩ := hsl.place (by omega)
  obtain ⟨p0, p1⟩ := rr_at hsl hr
  refine rN ?_ (V t0<|V t1<|V t6<|V c0<|V hlen<|V d1<|V lt1<|V p0<|V @b_lssS<|V hl<|w1)
  exact ⟨rAt k Q - (i + 1), by omega, i + 1, rfl, rfl, hi, by exact sT, by exact sT, by exact sT, rfl⟩
 ·obtain rfl : i = rAt k Q:= by omega
  by_cases hq : rAt k Q < Q.length
  ·have d1 : decide (rAt k Q < Q.length) = true := decide_eq_true hq
   have lt1 : (rAt k Q < Q.length) = True:= by simp [hq]
   obtain ⟨r, hr⟩ : ∃ r, Q[rAt k Q]? = some r := ⟨_, List.getElem?_eq_getElem hq⟩
   have hl := rAt_end hr
   have hsl := hx.sl
   obtain ⟨bl, o, cap, rfl, hbl, -⟩ := hsl.place (by omega)
   obtain ⟨p0, p1⟩ := rr_at hsl hr
   have hri : rIs k Q = decide (r.key = k):= by unfold rIs; rw [hr]
   rw [hri]
   refine rT ?_ (V t0<|V t1<|V t6<|V c0<|V hlen<|V d1<|V lt1<|V p0<|V @b_lssS<|hl)
   exact ⟨rfl, Only.refl _ _⟩
  ·have d1 : decide (rAt k Q < Q.length) = false := decide_eq_false hq
   have hri : rIs k Q = false:= by unfold rIs; rw [List.getElem?_eq_none (by omega)]
   rw [hri]
   refine rT ?_ (V t0<|V t1<|V t6<|V c0<|V hso<|V hlen<|d1)
   exact ⟨rfl, Only.refl _ _⟩
end
end Go.Proofs.YtlkngpckibidlaaGreat.X

namespace Go.Proofs.YtlkngpckibidlaaGreat.X
open Go Go.AX
noncomputable section
set_option maxRecDepth 100000
def refL (k : List Nat) (Q : List RR) : List W.Ch := match Q[rAt k Q]? with | some r => if r.key = k then r.A else [] | none => []
theorem refL_no {k : List Nat} {Q : List RR} (h : rIs k Q = false) : refL k Q = [] := by
 unfold rIs at h; unfold refL
 cases q : Q[rAt k Q]? with
 | none => rfl
 | some r => rw [q] at h; simp at h; simp [h]
theorem refL_is {k : List Nat} {Q : List RR} (h : rIs k Q = true) : ∃ r, Q[rAt k Q]? = some r ∧ r.key = k ∧ refL k Q = r.A := by
 unfold rIs at h; unfold refL
 cases q : Q[rAt k Q]? with
 | none => rw [q] at h; cases h
 | some r => rw [q] at h; simp at h; exact ⟨r, rfl, h, by simp [h]⟩
theorem rOfC {p : Nat → Prop} (h : H) (b : Nat) (k : List Nat) (Q : List RR) (s : AV) (hx : RIx p h b Q s) (hz : Q.length ≤ 100000) : PushC P (.enter 20 [.ptr b 0, .str k] h) fun v h' => Only h h' [] ∧ W.RefP p h' v (refL k Q) := by
 refine pushC_of_codeW (fn := Tryz.f20) (c := bodyC Tryz.f20) Tryz.func20 rfl ?_
 show codeW P 20 24 none _ _ _ _ _
 refine codeW_root ?_
 refine rN0 ?_
 obtain ⟨h1, h1e⟩ : ∃ h1, h1 = h.newCells 62 [.nilslice] := ⟨_, rfl⟩
 have o1 : Only h h1 []:= by rw [h1e]; exact (Only.refl _ _).new _ _
 have x1 : h1.nx = h.nx + 1:= by rw [h1e]; rfl
 have z1 : cellAt h1 h.nx 0 = some .nilslice:= by rw [h1e]; exact sT
 have w1 : wrAt h1 h.nx = true:= by rw [h1e]; exact sT
 rw [← h1e]
 refine ((rFindC h1 b k Q s (hx.keep o1) hz).call P).mono P ?_
 rintro v h2 ⟨rfl, o2⟩
 have xo2 := o2.1
 have z2 := W.kcell z1 o2 (by omega) (by simp)
 have w2 := W.kwr w1 o2 (by omega) (by simp)
 have o12 := o1.t o2
 have hx2 := hx.keep o12
 have lt0 := hx.lt
 cases hi : rIs k Q with
 | false =>
  rw [refL_no hi]
  refine rN ?_ (V z2<|V w2<|@Bool.not_false)
  exact ⟨o12.sts (.inr (Nat.le_refl _)), W.RefP.nil _ _⟩
 | true =>
  obtain ⟨r, hr, hk, hA⟩ := refL_is hi
  rw [hA]
  have hlt := (List.getElem?_eq_some_iff.1 hr).1
  have lt1 : (rAt k Q < Q.length) = True:= by simp [hlt]
  have c0 := hx2.c0
  have hsl := hx2.sl
  have hsl0 := hx.sl
  have hg := hx2.gg r (List.mem_of_getElem? hr)
  have hg0 := hx.gg r (List.mem_of_getElem? hr)
  obtain ⟨y, e', hvo, hvc⟩ := hg.1.val
  cases e'
  have hlen := hsl.len (P := P) u26
  obtain ⟨bl, o, cap, rfl, hbl, -⟩ := hsl0.place (by omega)
  obtain ⟨p0, p1⟩ := rr_at hsl hr
  have hne : (b = h.nx) = False:= by simp; omega
  refine rN ?_ (V z2<|V w2<|V c0<|V lt1<|V p0<|V p1<|V hvo<|V hvc<|V hne<|@Bool.not_true)
  have hb : ∀ c, blkOf r.v = some c → c < h.nx := fun c e => by
   obtain ⟨⟨_, e', hs, -⟩, -⟩ := hg0
   cases e'
   exact hs.blk c e
  obtain ⟨⟨_, e', hs, hn⟩, hp⟩ := hg
  cases e'
  exact ⟨o12.sts (.inr (Nat.le_refl _)), ⟨r.v, rfl, hs.only (S := [h.nx]) ((Only.refl _ _).sts (.inl (by simp))) (fun c q => by have := hb c q; simp; omega), hn⟩, hp⟩
end
end Go.Proofs.YtlkngpckibidlaaGreat.X

namespace Go.Proofs.YtlkngpckibidlaaGreat.X
open Go Go.AX
noncomputable section
set_option maxRecDepth 100000
theorem bi_append_0 {h : H} {t u e : TypeId} {info : TypeInfo} {u' : TypeDesc} (hu : P.underlying t = some (.slice e)) (hu2 : P.underlying u = some u') (hn : ∀ k, u' ≠ .int k) (hi : P.info? e = some info) (hk : appendOk P e info = true)
  (s : AV) (ts : List TypeId) (xs : List AV) : builtinA P .append (t :: u :: ts) (s :: .slice0 :: xs) h = appendN e info.size s 0 [] h := by
 cases u' with
 | int k => exact absurd rfl (hn k)
 | _ => simp only [builtinA, hu, hu2, appendA, hi, lenOfA, hk, srcA]
theorem appendN_0 {h : H} {e size base : Nat} {l0 : AV} {n0 : Nat} {cs0 : List AV} (hg : Grows size base h l0 n0 cs0) : appendN e size l0 0 [] h = .val l0 h := by
 unfold appendN
 rw [Nat.zero_mul]
 cases hg with
 | none => rfl
 | cell => rfl
@[reducible] def AppTo (base : Nat) (h : H) (l0 : AV) (n : Nat) (cs : List AV) (K : AV → H → Prop) : Prop :=
 ∀ v' h', Grows 2 base h' v' n cs → h.nx ≤ h'.nx → (∀ b, b < h.nx → blkOf l0 ≠ some b → h'.t.get b = h.t.get b) → (∀ b, blkOf v' = some b → blkOf l0 = some b ∨ h.nx ≤ b) → K v' h'
theorem app_none {t e : TypeId} (hu : P.underlying t = some (.slice e)) (hi : infoOk P e 2 = true) {base : Nat} {h : H} {l0 : AV} {n0 : Nat} {cs0 : List AV} (hg : Grows 2 base h l0 n0 cs0) {v2 : AV} (hv : v2 = .nilslice ∨ v2 = .slice0) {K : AV → H → Prop} (hk : AppTo base h l0 n0 cs0 K) :
  exW P (builtinA P .append [t, t] [l0, v2] h) K := by
 unfold infoOk at hi
 split at hi
 ·rename_i info hinfo
  rw [Bool.and_eq_true] at hi
  have e2 := Nat.eq_of_beq_eq_true hi.2
  have : builtinA P .append [t, t] [l0, v2] h = .val l0 h := by
   rcases hv with rfl | rfl
   ·rw [bi_append_nil hu hu (fun k h => by cases h) hinfo hi.1, e2]; exact appendN_0 hg
   ·rw [bi_append_0 hu hu (fun k h => by cases h) hinfo hi.1, e2]; exact appendN_0 hg
  rw [this]
  exact hk l0 h hg (Nat.le_refl _) (fun _ _ _ => rfl) (fun _ e => .inl e)
 ·cases hi
theorem app_some {t e : TypeId} (hu : P.underlying t = some (.slice e)) (hi : infoOk P e 2 = true) {base : Nat} {h : H} {l0 : AV} {n0 : Nat} {cs0 : List AV} (hg : Grows 2 base h l0 n0 cs0) (hb : base ≤ h.nx) {b o k : Nat} {c : Cap} {new : List AV} (hr : h.row b o (k * 2) = some new) (hl : new.length = k * 2) (hk0 : 0 < k) (hsm : n0 + k ≤ 4194304)
  {K : AV → H → Prop} (hk : AppTo base h l0 (n0 + k) (cs0 ++ new) K) : exW P (builtinA P .append [t, t] [l0, .slice b o k c] h) K := by
 rw [bi_append2 hu hu (fun k h => by cases h) hi, hr]
 exact exW_grows hg hb hk0 (by omega) hl hsm fun v' h' g x old bl => hk v' h' g (by omega) old fun b e => by rw [bl] at e; cases e; exact .inr (Nat.le_refl _)
theorem app_zero {t e : TypeId} (hu : P.underlying t = some (.slice e)) (hi : infoOk P e 2 = true) {base : Nat} {h : H} {l0 : AV} {n0 : Nat} {cs0 : List AV} (hg : Grows 2 base h l0 n0 cs0) {b o : Nat} {c : Cap} (hr : h.row b o 0 = some [])
  {K : AV → H → Prop} (hk : AppTo base h l0 n0 cs0 K) : exW P (builtinA P .append [t, t] [l0, .slice b o 0 c] h) K := by
 rw [bi_append2 hu hu (fun k h => by cases h) hi, Nat.zero_mul, hr]
 show exW P (appendN e 2 l0 0 [] h) K
 rw [appendN_0 hg]
 exact hk l0 h hg (Nat.le_refl _) (fun _ _ _ => rfl) (fun _ e => .inl e)
theorem grow_rowB {base : Nat} {h : H} {b n : Nat} {cs : List AV} {t : T AV} {ty : Nat} (h2 : b < h.nx) (h4 : h.t.get b = some (.cells (n * 2) t ⟨2, ty⟩ false)) (h5 : ∀ j, t.get j = cs[j]?) : RowB h b (n * 2) 2 ty cs := ⟨h2, t, h4, fun j _ => h5 j⟩
theorem appHi {t e : TypeId} (hu : P.underlying t = some (.slice e)) (hok : okT P e = true) (hsz : P.cellsOf e = 2) (hi : infoOk P e 2 = true) {b2 : Nat} {h : H} {s : AV} {n : Nat} {cs : List AV} (hs : Grows 2 b2 h s n cs) {i : Nat} (hin : i ≤ n) (hn : n ≤ 1000000) :
  ∃ v2, sliceA P t s none (some (.int .i64 (.ofNat i))) none = some v2 ∧ v2.one = true ∧ ∀ base l0 n0 cs0, Grows 2 base h l0 n0 cs0 → base ≤ h.nx → n0 ≤ 1000000 → ∀ K, AppTo base h l0 (n0 + i) (cs0 ++ cs.take (i * 2)) K → exW P (builtinA P .append [t, t] [l0, v2] h) K := by
 cases hs with
 | none =>
  obtain rfl : i = 0:= by omega
  refine ⟨.nilslice, ?_, rfl, fun base l0 n0 cs0 hg hb hz K hk => app_none hu hi hg (.inl rfl) (by simpa using hk)⟩
  simp only [sliceA, hu, hok]; rfl
 | cell b n cs t' ty h1 h2 h3 h4 h5 =>
  have hr := grow_rowB (base := b2) h2 h4 h5
  refine ⟨.slice b 0 i (.opn 0), ?_, rfl, fun base l0 n0 cs0 hg hb hz K hk => ?_⟩
  ·simp only [sliceA, hu, hok, sliceOp, bndO, bnd, ble_t hin, Nat.beq_refl]
  ·rcases Nat.eq_zero_or_pos i with rfl | q
   ·exact app_zero hu hi hg (row_zero hr 0) (by simpa using hk)
   ·exact app_some hu hi hg hb (hr.row (by omega) (by omega)) (by simp; omega) q (by omega) (by simpa using hk)
theorem appLo {t e : TypeId} (hu : P.underlying t = some (.slice e)) (hok : okT P e = true) (hsz : P.cellsOf e = 2) (hi : infoOk P e 2 = true) {b2 : Nat} {h : H} {s : AV} {n : Nat} {cs : List AV} (hs : Grows 2 b2 h s n cs) {i : Nat} (hin : i ≤ n) (hn : n ≤ 1000000) :
  ∃ v2, sliceA P t s (some (.int .i64 (.ofNat i))) none none = some v2 ∧ v2.one = true ∧ ∀ h', (∀ b, blkOf s = some b → h'.t.get b = h.t.get b) → h.nx ≤ h'.nx → ∀ base l0 n0 cs0, Grows 2 base h' l0 n0 cs0 → base ≤ h'.nx → n0 ≤ 1000000 → ∀ K, AppTo base h' l0 (n0 + (n - i)) (cs0 ++ cs.drop (i * 2)) K → exW P (builtinA P .append [t, t] [l0, v2] h') K := by
 cases hs with
 | none =>
  obtain rfl : i = 0:= by omega
  refine ⟨.nilslice, ?_, rfl, fun h' _ _ base l0 n0 cs0 hg hb hz K hk => app_none hu hi hg (.inl rfl) (by simpa using hk)⟩
  simp only [sliceA, hu, hok]; rfl
 | cell b n cs t' ty h1 h2 h3 h4 h5 =>
  rcases Nat.lt_or_ge i n with q | q
  ·refine ⟨.slice b (0 + i * 2) (n - i) (.opn (0 + i)), ?_, rfl, fun h' hk1 hk2 base l0 n0 cs0 hg hb hz K hk => ?_⟩
   ·exact sl_op_l hu hok hsz b 0 n 0 i .i64 q
   ·have hr : RowB h' b (n * 2) 2 ty cs := ⟨by omega, t', by rw [hk1 b rfl]; exact h4, fun j _ => h5 j⟩
    have e2 : List.take ((n - i) * 2) (List.drop (0 + i * 2) cs) = cs.drop (i * 2):= by rw [Nat.zero_add, List.take_of_length_le (by rw [List.length_drop]; omega)]
    have hrow := hr.row (o := 0 + i * 2) (n := (n - i) * 2) (by omega) (by omega)
    rw [e2] at hrow
    exact app_some hu hi hg hb hrow (by rw [List.length_drop]; omega) (by omega) (by omega) hk
  ·obtain rfl : i = n:= by omega
   have e2 : cs.drop (i * 2) = [] := List.drop_eq_nil_of_le (by omega)
   rw [e2]
   rcases Nat.eq_zero_or_pos i with rfl | q0
   ·refine ⟨.slice b 0 0 (.opn 0), ?_, rfl, fun h' hk1 hk2 base l0 n0 cs0 hg hb hz K hk => ?_⟩
    ·simp only [sliceA, hu, hok, sliceOp, bndO, bnd, ble_t (Nat.le_refl 0), Nat.beq_refl]
    ·have hr : RowB h' b (0 * 2) 2 ty cs := ⟨by omega, t', by rw [hk1 b rfl]; exact h4, fun j _ => h5 j⟩
     exact app_zero hu hi hg (row_zero hr 0) (by simpa using hk)
   ·refine ⟨.slice0, ?_, rfl, fun h' hk1 hk2 base l0 n0 cs0 hg hb hz K hk => app_none hu hi hg (.inr rfl) (by simpa using hk)⟩
    simp only [sliceA, hu, hok, sliceOp, bndO, bnd, ble_t (Nat.le_refl i), beq_f (show i ≠ 0 by omega), ble_f (show i < i + 1 by omega)]
end
end Go.Proofs.YtlkngpckibidlaaGreat.X

namespace Go.Proofs.YtlkngpckibidlaaGreat.X
open Go Go.AX
noncomputable section
set_option maxRecDepth 100000
def setR (k : List Nat) (A : List W.Ch) (g : AV) (Q : List RR) : List RR := Q.take (rAt k Q) ++ (if A = [] then [] else [⟨k, A, g⟩]) ++ Q.drop (rAt k Q + if rIs k Q then 1 else 0)
theorem rrs_take (Q : List RR) : ∀ i, rrsC (Q.take i) = (rrsC Q).take (i * 2) := by
 induction Q with
 | nil => intro i; simp [rrsC]
 | cons a Q ih =>
  intro i
  cases i with
  | zero => simp [rrsC]
  | succ i =>
   have : (i + 1) * 2 = i * 2 + 1 + 1:= by omega
   rw [this]
   have h2 := ih i
   simp only [rrsC] at h2
   simp [rrsC, rrC, h2]
theorem rrs_drop (Q : List RR) : ∀ i, rrsC (Q.drop i) = (rrsC Q).drop (i * 2) := by
 induction Q with
 | nil => intro i; simp [rrsC]
 | cons a Q ih =>
  intro i
  cases i with
  | zero => simp [rrsC]
  | succ i =>
   have : (i + 1) * 2 = i * 2 + 1 + 1:= by omega
   rw [this]
   have h2 := ih i
   simp only [rrsC] at h2
   simp [rrsC, rrC, h2]
theorem rrs_app (Q R : List RR) : rrsC (Q ++ R) = rrsC Q ++ rrsC R:= by simp [rrsC]
def PostSet (p : Nat → Prop) (h : H) (b : Nat) (Q' : List RR) (v : AV) (h' : H) : Prop := v = .tuple [] ∧ Only h h' [b] ∧ ∃ s', RIx p h' b Q' s' ∧ ∀ c, blkOf s' = some c → h.nx ≤ c
def Stop22 (p : Prop) : Prop := p
theorem stop22 {ds : List Nat} {tm : T AV} {h : H} {Q : KQ} (hw : Stop22 (codeW P 22 47 none (codeI (bodyC Tryz.f22) [1, 1, 1, 1, 1]) ds tm h Q)) : codeW P 22 47 none (codeI (bodyC Tryz.f22) [1, 1, 1, 1, 1]) ds tm h Q := hw
theorem setTail {p : Nat → Prop} (h0 h5 : H) (b : Nat) (k : List Nat) (A : List W.Ch) (g : AV) (Q : List RR) (s v5 : AV) (hx : RIx p h0 b Q s) (hz : Q.length ≤ 100000) (hpb : ¬ p b) (hg : W.RefP p h0 (.agg [g]) A) (o5 : Only h0 h5 []) (X : List RR) (hX : X = Q.take (rAt k Q) ++ (if A = [] then [] else [⟨k, A, g⟩]))
  (g5 : Grows 2 h0.nx h5 v5 X.length (rrsC X)) (tm : T AV) (t0 : tm.get 0 = some (.ptr b 0)) (t6 : tm.get 6 = some (.int .i64 (.ofNat (rAt k Q)))) (t7 : tm.get 7 = some (.bool (rIs k Q))) (t8 : tm.get 8 = some v5) :
  codeW P 22 47 none (codeI (bodyC Tryz.f22) [1, 1, 1, 1, 1]) [] tm h5 (retK P Tryz.f22 (PostSet p h0 b (setR k A g Q))) := by
 have x5 := o5.1
 have hxl := hx.lt
 have hx5 := hx.keep o5
 have c0 := hx5.c0
 have w0 := hx5.wr
 have hle := rAt_le k Q
 have hso := W.SliceAt.one hx.sl
 have g5o := g5.one
 obtain ⟨at2, hat⟩ : ∃ at2, at2 = rAt k Q + if rIs k Q then 1 else 0 := ⟨_, rfl⟩
 have hat2 : at2 ≤ Q.length := by
  rw [hat]
  cases hi : rIs k Q with
  | false => simp; exact hle
  | true =>
   obtain ⟨r, hr, -, -⟩ := refL_is hi
   have := (List.getElem?_eq_some_iff.1 hr).1
   simp; omega
 have hXl : X.length ≤ Q.length + 1 := by
  rw [hX]
  split <;> simp <;> omega
 obtain ⟨v2, hsl, v2o, happ⟩ := appLo (t := 26) (e := 78) u26 (by kernel_rfl) (by kernel_rfl) (by kernel_rfl) hx5.sg (i := at2) hat2 (by omega)
 have fin : ∀ v6 h6, Grows 2 h0.nx h6 v6 (X.length + (Q.length - at2)) (rrsC X ++ (rrsC Q).drop (at2 * 2)) → h5.nx ≤ h6.nx → (∀ b, b < h5.nx → blkOf v5 ≠ some b → h6.t.get b = h5.t.get b) → v6.one = true ∧ v6.cells = [v6] ∧ wrAt h6 b = true ∧ cellAt h6 b 0 = some s ∧ PostSet p h0 b (setR k A g Q) (.tuple []) (h6.sts b 0 [v6]) := by
  intro v6 h6 g6 x6 old6
  have o6 : Only h0 h6 [] := ⟨by omega, fun c hc _ => by
   rw [old6 c (by omega) (fun e => by have := (g5.base e).1; omega), o5.2 c hc (by simp)]⟩
  have w6 : wrAt h6 b = true := W.kwr hx.wr o6 hxl (by simp)
  have hS : setR k A g Q = X ++ Q.drop at2:= by unfold setR; rw [hX, hat]
  have hlen : (setR k A g Q).length = X.length + (Q.length - at2):= by rw [hS]; simp
  have hcs : rrsC (setR k A g Q) = rrsC X ++ (rrsC Q).drop (at2 * 2):= by rw [hS, rrs_app, rrs_drop]
  have o7 : Only h0 (h6.sts b 0 [v6]) [b] := (Only.wide o6).sts (.inl (by simp))
  have o67 : Only h6 (h6.sts b 0 [v6]) [b] := (Only.refl _ _).sts (.inl (by simp))
  have hb6 : ∀ c, blkOf v6 = some c → h0.nx ≤ c ∧ c < h6.nx := fun c e => g6.base e
  refine ⟨g6.one, g6.cells, w6, W.kcell hx.c0 o6 hxl (by simp), rfl, o7, v6, ⟨by rw [nx_sts]; omega, ?_, by rw [wrAt_sts]; exact w6, ?_, fun r hr => ?_, fun e => by have := (hb6 _ e).1; omega⟩, fun c e => (hb6 c e).1⟩
  ·rw [cellAt_sts w6, if_pos ⟨rfl, Nat.le_refl _, by simp⟩]; rfl
  ·rw [hlen, hcs]
   exact (g6.of_get (by rw [nx_sts]; exact Nat.le_refl _) (fun c e => o67.2 c (hb6 c e).2 (by have := (hb6 c e).1; simp; omega))).weak (Nat.zero_le _)
  ·have hr' : r ∈ Q ∨ A ≠ [] ∧ r = ⟨k, A, g⟩ := by
    rw [hS, hX] at hr
    rcases List.mem_append.1 hr with hr | hr
    ·rcases List.mem_append.1 hr with hr | hr
     ·exact .inl (List.mem_of_mem_take hr)
     ·split at hr
      ·cases hr
      ·rename_i hA; rw [List.mem_singleton] at hr; exact .inr ⟨hA, hr⟩
    ·exact .inl (List.mem_of_mem_drop hr)
   have hb : ∀ c, c ∈ [b] → ¬ p c := fun c hc => by rw [List.mem_singleton] at hc; subst hc; exact hpb
   rcases hr' with q | ⟨-, q⟩
   ·exact (hx.gg r q).keep o7 hb
   ·subst q; exact hg.keep o7 hb
 have w1 : wrapF .i64 (Int.ofNat (rAt k Q) + Int.ofNat 1) = Int.ofNat (rAt k Q + 1) := i64_add (by omega)
 cases hi : rIs k Q with
 | false =>
  rw [hi] at t7 hat
  simp only [Bool.false_eq_true, if_false, Nat.add_zero] at hat
  rw [hat] at hsl happ fin
  refine rN ?_ (V t0<|V t6<|V t7<|V t8<|V c0<|V hso<|V g5o<|V @ex_sl_l<|V hsl<|v2o)
  with_reducible refine happ h5 (fun _ _ => rfl) (Nat.le_refl _) h0.nx v5 X.length (rrsC X) g5 x5 (by omega) _ (fun v6 h6 g6 x6 old6 bl6 => ?_)
  obtain ⟨f1, f2, f3, f5, f4⟩ := fin v6 h6 g6 x6 old6
  refine rN ?_ (V t0<|V t6<|V t7<|V t8<|V f1<|V f2<|V f3<|f5)
  rw [retK_norm]
  exact ⟨_, rfl, _, rfl, f4⟩
 | true =>
  rw [hi] at t7 hat
  simp only [if_true] at hat
  rw [hat] at hsl happ fin
  refine rN ?_ (V t0<|V t6<|V t7<|V t8<|V c0<|V hso<|V g5o<|V w1<|V @ex_sl_l<|V hsl<|v2o)
  with_reducible refine happ h5 (fun _ _ => rfl) (Nat.le_refl _) h0.nx v5 X.length (rrsC X) g5 x5 (by omega) _ (fun v6 h6 g6 x6 old6 bl6 => ?_)
  obtain ⟨f1, f2, f3, f5, f4⟩ := fin v6 h6 g6 x6 old6
  refine rN ?_ (V t0<|V t6<|V t7<|V t8<|V f1<|V f2<|V f3<|f5)
  rw [retK_norm]
  exact ⟨_, rfl, _, rfl, f4⟩
theorem rSetC {p : Nat → Prop} (h : H) (b : Nat) (k : List Nat) (A : List W.Ch) (g : AV) (Q : List RR) (s : AV) (hx : RIx p h b Q s) (hz : Q.length ≤ 100000) (hAz : A.length ≤ 1000) (hpb : ¬ p b) (hg : W.RefP p h (.agg [g]) A) :
  PushC P (.enter 22 [.ptr b 0, .str k, .agg [g]] h) (PostSet p h b (setR k A g Q)) := by
 have hxl := hx.lt
 have hle := rAt_le k Q
 obtain ⟨_, e', hgo, hgc⟩ := hg.1.val
 cases e'
 refine pushC_of_codeW (fn := Tryz.f22) (c := bodyC Tryz.f22) Tryz.func22 rfl ?_
 show codeW P 22 47 none _ _ _ _ _
 refine codeW_root ?_
 refine rN ?_ (V hgo<|hgc)
 obtain ⟨h1, h1e⟩ : ∃ h1, h1 = h.newCells 62 [g] := ⟨_, rfl⟩
 have o1 : Only h h1 []:= by rw [h1e]; exact (Only.refl _ _).new _ _
 have x1 : h1.nx = h.nx + 1:= by rw [h1e]; rfl
 have z1 : cellAt h1 h.nx 0 = some g:= by rw [h1e]; exact sT
 rw [← h1e]
 refine ((rFindC h1 b k Q s (hx.keep o1) hz).call P).mono P ?_
 rintro v h2 ⟨rfl, o2⟩
 have x2 := o2.1
 have o12 := o1.t o2
 have z2 := W.kcell z1 o2 (by omega) (by simp)
 have hx2 := hx.keep o12
 have c0 := hx2.c0
 have hso := W.SliceAt.one hx.sl
 obtain ⟨v2, hsl, v2o, happ⟩ := appHi (t := 26) (e := 78) u26 (by kernel_rfl) (by kernel_rfl) (by kernel_rfl) hx2.sg (i := rAt k Q) hle (by omega)
 refine rN ?_ (V c0<|V hso<|V @ex_sl_h<|V hsl<|v2o)
 with_reducible refine happ h2.nx .nilslice 0 [] Grows.none (Nat.le_refl _) (by omega) _ (fun v3 h3 g3 x3 old3 bl3 => ?_)
 have g3o := g3.one
 have o3 : Only h2 h3 [] := ⟨x3, fun c hc _ => old3 c hc (by simp [blkOf])⟩
 have z3 := W.kcell z2 o3 (by omega) (by simp)
 rw [Nat.zero_add, List.nil_append, ← rrs_take] at g3
 have hgs := hg.1
 obtain ⟨_, e', hs, hn⟩ := hgs
 cases e'
 have hlen := hs.len (P := P) u60
 have htl : (Q.take (rAt k Q)).length = rAt k Q:= by rw [List.length_take]; omega
 by_cases hA : A = []
 ·have d1 : decide (0 < A.length) = false:= by subst hA; rfl
  repeat' (first | (with_reducible refine stop22 ?_) | ((with_reducible refine st1 ?_); (conv => whnf); (with_reducible refine ⟨?_⟩)) | ((with_reducible refine retW_intro rfl ?_); (conv => arg 2; whnf)) | ((with_reducible first | refine iB ?_ ?_ | refine gWt ?_ ?_ | refine gWf ?_ ?_) <;> intro hb <;> (try simp only [hb])) | (simp only [B, F, reduceLT, reduceLeDiff, reduceEqDiff, reduceAdd, reduceMul, reduceSub, ↓reduceIte, eq_self, z3, g3o, hlen, d1]))
  refine setTail h h3 b k A g Q s v3 hx hz hpb hg (o12.t o3) (Q.take (rAt k Q)) (by rw [if_pos hA, List.append_nil]) ?_ _ (by exact sT) (by exact sT) (by exact sT) (by exact sT)
  rw [htl]; exact g3.weak (by omega)
 ·have d1 : decide (0 < A.length) = true := decide_eq_true (List.length_pos_iff.2 hA)
  obtain ⟨h4, h4e⟩ : ∃ h4, h4 = h3.newCells 78 [.str k, g] := ⟨_, rfl⟩
  have o4 : Only h3 h4 []:= by rw [h4e]; exact (Only.refl _ _).new _ _
  have x4 : h4.nx = h3.nx + 1:= by rw [h4e]; rfl
  have hrow : h4.row h3.nx 0 2 = some [.str k, g] := row_ok (o := 0) (cs := [.str k, g]) (fun j hj => by rw [h4e, cellAt_new, Nat.zero_add, if_pos rfl]) (by simp)
  refine rN ?_ (V z3<|V g3o<|V hlen<|V d1<|V hgo<|V hgc<|V h4e.symm<|hrow)
  have g4 : Grows 2 h2.nx h4 v3 _ _ := g3.of_get o4.1 (fun c e => o4.2 c (g3.base e).2 (by simp))
  refine exW_grows (m := 1) (new := [.str k, g]) g4 (by omega) (by omega) (by omega) rfl (by omega) (fun v5 h5 g5 x5 old5 blk5 => ?_)
  have g5o := g5.one
  repeat' (first | (with_reducible refine stop22 ?_) | ((with_reducible refine st1 ?_); (conv => whnf); (with_reducible refine ⟨?_⟩)) | ((with_reducible refine retW_intro rfl ?_); (conv => arg 2; whnf)) | ((with_reducible first | refine iB ?_ ?_ | refine gWt ?_ ?_ | refine gWf ?_ ?_) <;> intro hb <;> (try simp only [hb])) | (simp only [B, F, reduceLT, reduceLeDiff, reduceEqDiff, reduceAdd, reduceMul, reduceSub, ↓reduceIte, eq_self, g5o]))
  have o5 : Only h h5 [] := ⟨by have := o12.1; omega, fun c hc _ => by
   rw [old5 c (by have := o12.1; omega) (fun e => by have := (g4.base e).1; have := o12.1; omega), o4.2 c (by have := o12.1; omega) (by simp), o3.2 c (by have := o12.1; omega) (by simp), o12.2 c hc (by simp)]⟩
  refine setTail h h5 b k A g Q s v5 hx hz hpb hg o5 (Q.take (rAt k Q) ++ [⟨k, A, g⟩]) (by rw [if_neg hA]) ?_ _ (by exact sT) (by exact sT) (by exact sT) (by exact sT)
  rw [rrs_app, List.length_append, htl]; exact g5.weak (by omega)
end
end Go.Proofs.YtlkngpckibidlaaGreat.X


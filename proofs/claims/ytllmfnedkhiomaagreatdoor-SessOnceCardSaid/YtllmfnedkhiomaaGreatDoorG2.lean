/-
  'SessOnce' returns true, in every world where the package-level variables start as the program's text lays them; the argument reads as it did.
-/
import Derived.Test.YtllmfnedkhiomaaGreatDoorAxI
import Derived.Test.YtllmfnedkhiomaaGreatDoorG1
import Derived.Test.YtllmfnedkhiomaaGreatDoorRows
import Derived.Test.YtllmfnedkhiomaaGreatDoorTie
import Derived.Test.YtllmfnedkhiomaaGreatDoorCards
import Derived.ProofKit
import Derived.OpenShut
import Derived.LaidLaws
import Derived.LaidHandle
import Derived.Lay
import Derived.MakeChecks
import Derived.SevenTiedAt
import Derived.Lib.LaidU8
import Derived.Test.YtllmfnedkhiomaaGreatDoorG0
set_option linter.unusedSimpArgs false
set_option linter.unusedVariables false
set_option linter.unusedSectionVars false
open Nat (reduceLT reduceLeDiff reduceEqDiff reduceAdd reduceMul reduceSub)
namespace Go.Proofs.YtllmfnedkhiomaaGreatDoor.S
open Go Go.AX
noncomputable section
set_option maxRecDepth 100000
theorem u56t : P.underlying 56 = some (.map 26 37):= by kernel_rfl
theorem z37t : zeroA P 37 = some .nilslice:= by kernel_rfl
theorem mk56 (tm : T AV) (h : H) : execA P tm h (.makeMap 56 none) = .val (.map h.nx) (h.alloc (.map [] 0)):= by simp only [execA, u56t, evalO]
theorem keysC (h : H) (r : Nat) : PushC P (.enter 17 [.map r] h) fun v h' => v = .func 31 [] [.ptr h.nx 0] ∧ h' = h.newCells 25 [.map r] := by
 refine pushC_of_codeW (fn := Tryz.f17) (c := bodyC Tryz.f17) Tryz.func17 rfl ?_
 show codeW P 17 4 none _ _ _ _ _
 refine codeW_root ?_
 repeat' (first | ((with_reducible refine st1 ?_); (conv => whnf); (with_reducible refine ⟨?_⟩)) | ((with_reducible refine retW_intro rfl ?_); (conv => arg 2; whnf)) | ((with_reducible first | refine iB ?_ ?_ | refine gWt ?_ ?_ | refine gWf ?_ ?_) <;> intro hb <;> (try simp only [hb])) | (simp only [B, F, reduceLT, reduceLeDiff, reduceEqDiff, reduceAdd, reduceMul, reduceSub, ↓reduceIte, eq_self]))
structure OkX (X : List Kp) : Prop where
 nd : (X.map (·.1)).Nodup
 ok : ∀ p, p ∈ X → isBy p.1 ∧ isBy p.2 ∧ p.1.length ≤ 200 ∧ p.2.length ≤ 200
 ln : X.length ≤ 4000
theorem OkX.val {X : List Kp} (o : OkX X) (k : List Nat) : isBy (valX k X) ∧ (valX k X).length ≤ 200 := by
 unfold valX
 cases h : X.find? fun p => decide (k = p.1) with
 | none => exact ⟨fun c hc => (by cases hc), by simp⟩
 | some p =>
  have := o.ok p (List.mem_of_find?_eq_some h)
  exact ⟨this.2.1, this.2.2.2⟩
structure OpenYes (h0 : H) (X : List Kp) (v : AV) (h' : H) (b rb : Nat) (Bk : List Rw) : Prop where
 v : v = .tuple [.ptr b 0, .int .i64 (.ofNat 0)]
 bk : BkAt h' b rb Bk
 val : ValB Bk
 pm : (allP Bk).Perm X
 oo : Og h0 h' []
 ge : h0.nx ≤ b ∧ h0.nx ≤ rb
structure OpenNo (h0 : H) (X : List Kp) (v : AV) (h' : H) : Prop where
 v : v = .tuple [.nilptr, .int .i64 (.ofNat 4)]
 oo : Og h0 h' []
 no : ¬ Good X
def OpenPost (h0 : H) (X : List Kp) (v : AV) (h' : H) : Prop := (∃ b rb Bk, OpenYes h0 X v h' b rb Bk) ∨ OpenNo h0 X v h'
def ksX (X : List Kp) : List (List Nat) := sortS (X.map (·.1))
def yX (X : List Kp) (i : Nat) : List Kp := ((ksX X).take i).map fun k => (k, valX k X)
theorem yX_all (X : List Kp) : yX X (ksX X).length = sortedY X:= by unfold yX; rw [List.take_length]; rfl
theorem good_key {X : List Kp} (g : Good X) {k : List Nat} (hk : k ∈ ksX X) : ∃ c, cliOf k = some c ∧ 0 < c := by
 obtain ⟨Bk, hv, hp⟩ := g
 obtain ⟨R, hR, e, -⟩ := good_rows hv hp
 have : k ∈ (sortedY X).map (·.1) := by
  unfold sortedY
  rw [List.map_map]
  exact List.mem_map.2 ⟨k, hk, rfl⟩
 rw [e] at this
 obtain ⟨p, hp2, rfl⟩ := List.mem_map.1 this
 unfold allP at hp2
 obtain ⟨y, hy, hp3⟩ := List.mem_flatMap.1 hp2
 have hy2 := hv.ok y (hR.mem_iff.1 hy)
 have h60 := prs_len hy2.1
 obtain ⟨c, n, s⟩ := y
 rw [prs_len'] at h60
 unfold prs at hp3
 obtain ⟨i, hi, rfl⟩ := List.mem_map.1 hp3
 rw [List.mem_range] at hi
 exact ⟨c, cliOf_key hy2.1.1 (by simp only at hi; omega), hy2.2.1⟩
theorem good_read {X : List Kp} (g : Good X) {x : Nat × List Nat} (hx : x ∈ tx (sortedY X)) : readOk x.2 = true := by
 obtain ⟨Bk, hv, hp⟩ := g
 obtain ⟨R, hR, -, e⟩ := good_rows hv hp
 rw [e] at hx
 obtain ⟨y, hy, rfl⟩ := List.mem_map.1 hx
 exact (read_row (hv.ok y (hR.mem_iff.1 hy))).2
theorem good_book {X : List Kp} (g : Good X) : (bookT (tx (sortedY X))).length ≤ 64 ∧ (allP (bookT (tx (sortedY X)))).Perm X := by
 obtain ⟨Bk, hv, hp⟩ := g
 obtain ⟨R, hR, -, e⟩ := good_rows hv hp
 rw [e, book_rows (fun y hy => hv.ok y (hR.mem_iff.1 hy))]
 exact ⟨by rw [hR.length_eq]; exact hv.len, (allP_perm hR).trans hp⟩
structure O1I (hs : H) (r rt : Nat) (X : List Kp) (kv : AV) (m : Nat) (ds : List Nat) (tm : T AV) (h : H) (i : Nat) (W : List Tx) : Prop where
 ds : ds = []
 nn : m = (ksX X).length - i
 ii : i ≤ (ksX X).length
 t0 : tm.get 0 = some (.map r)
 t4 : tm.get 4 = some (.map rt)
 t17 : tm.get 17 = some kv
 t18 : tm.get 18 = some (.int .i64 (.ofNat (ksX X).length))
 t19 : tm.get 19 = some (.int .i64 (.ofNat i))
 tw : TxAt h rt hs.nx W
 pw : prW W = tx (yX X i)
 bb : ∀ x, x ∈ W → isBy x.2.1 ∧ x.2.1.length ≤ i * 200
 cl : ∀ x, x ∈ W → 0 < x.1 ∧ x.1 < 281474976710656
 oo : Og hs h [rt]
theorem yX_s {X : List Kp} {i : Nat} {k : List Nat} (h : (ksX X)[i]? = some k) : yX X (i + 1) = yX X i ++ [(k, valX k X)] := by
 unfold yX
 rw [List.take_add_one, h, List.map_append]; rfl
theorem putB_new {c : Nat} {x : Lst} : ∀ {L : List Rw}, c ∉ L.map (·.1) → putB c x L = L ++ [(c, x)]
 | [], _ => rfl
 | (a, y) :: L, h => by
  simp only [List.map_cons, List.mem_cons, not_or] at h
  unfold putB
  rw [if_neg h.1, putB_new h.2]; rfl
theorem mapW_split {R : List Tx} {p : Nat × AV} {R1 R2 : List (Nat × AV)} (h : mapW R = R1 ++ p :: R2) : ∃ S1 x S2, R = S1 ++ x :: S2 ∧ mapW S1 = R1 ∧ p = (x.1, x.2.2) ∧ mapW S2 = R2 := by
 unfold mapW at h
 obtain ⟨S1, S', e, q1, q2⟩ := List.map_eq_append_iff.1 h
 obtain ⟨x, S2, e2, q3, q4⟩ := List.map_eq_cons_iff.1 q2
 subst e2
 exact ⟨S1, x, S2, e, q1, q3.symm, q4⟩
theorem mapW_app (Xa Xb : List Tx) : mapW (Xa ++ Xb) = mapW Xa ++ mapW Xb:= by unfold mapW; rw [List.map_append]
theorem prW_perm {V W : List Tx} (h : V.Perm W) : (prW V).Perm (prW W) := h.map _
theorem bookT_perm {V W : List (Nat × List Nat)} (h : V.Perm W) : (bookT V).Perm (bookT W) := h.map _
theorem readOk_len {s : List Nat} (h : readOk s = true) : 0 < (readV s).1 ∧ (readV s).2.length ≤ 4000 := by
 unfold readOk at h
 simp at h
 exact ⟨h.1.2, h.2⟩
theorem nodup_of_map {l : List Kp} (h : (l.map (·.1)).Nodup) : l.Nodup := by
 rw [List.Nodup, List.pairwise_map] at h
 exact h.imp fun h e => h (by rw [e])
theorem perm_sub {α : Type} : ∀ {l m : List α}, l.Nodup → (∀ x, x ∈ l → x ∈ m) → m.length ≤ l.length → l.Perm m
 | [], m, _, _, h => by
  have : m = [] := List.length_eq_zero_iff.1 (by simpa using h)
  rw [this]
 | x :: l, m, nd, hs, h => by
  rw [List.nodup_cons] at nd
  obtain ⟨m1, m2, rfl⟩ := List.append_of_mem (hs x (by simp))
  have ih : l.Perm (m1 ++ m2) := perm_sub nd.2 (fun y hy => by
   have := hs y (by simp [hy])
   rw [List.mem_append, List.mem_cons] at this
   rw [List.mem_append]
   rcases this with q | rfl | q
   ·exact .inl q
   ·exact absurd hy nd.1
   ·exact .inr q) (by simp at h ⊢; omega)
  exact (ih.cons x).trans List.perm_middle.symm
structure O2I (h2 : H) (r rt bb rb it : Nat) (W : List Tx) (m : Nat) (ds : List Nat) (tm : T AV) (h : H) (V R : List Tx) : Prop where
 ds : ds = []
 nn : m = R.length
 pm : (V ++ R).Perm W
 t0 : tm.get 0 = some (.map r)
 t9 : tm.get 9 = some (.ptr bb 0)
 t46 : tm.get 46 = some (.ptr it 0)
 rg : RngK encU h it rt (mapW W) (mapW V) (mapW R)
 bk : BkAt h bb rb (bookT (prW V))
 rd : ∀ x, x ∈ V → readOk x.2.1 = true
 oo : Og h2 h [rb, it]
set_option maxHeartbeats 1000000 in
theorem openTail (h0 h : H) (gl : Gl h0) (r rt base : Nat) (X : List Kp) (ox : OkX X) (W : List Tx) (tw : TxAt h rt base W) (hW : prW W = tx (sortedY X)) (hb : ∀ x, x ∈ W → isBy x.2.1 ∧ x.2.1.length ≤ 800000) (hc : ∀ x, x ∈ W → 0 < x.1 ∧ x.1 < 281474976710656)
  (mx : MapK encS h r (mS X)) (oo : Og h0 h []) (hr : h0.nx ≤ rt) (hr2 : r < h0.nx) (tm : T AV) (t0 : tm.get 0 = some (.map r)) (t4 : tm.get 4 = some (.map rt)) :
  codeW P 6 80 none (codeI (bodyC Tryz.f6) [1, 1, 1]) [] tm h (retK P Tryz.f6 (OpenPost h0 X)) := by
 have xo := oo.1.1
 have gx := gl.x
 repeat' (first | ((with_reducible refine st1 ?_); (conv => whnf); (with_reducible refine ⟨?_⟩)) | ((with_reducible refine retW_intro rfl ?_); (conv => arg 2; whnf)) | ((with_reducible first | refine iB ?_ ?_ | refine gWt ?_ ?_ | refine gWf ?_ ?_) <;> intro hb <;> (try simp only [hb])) | (simp only [B, xB, F, reduceLT, reduceLeDiff, reduceEqDiff, reduceAdd, reduceMul, reduceSub, ↓reduceIte, eq_self, t0, t4]))
 refine ((newC h).call P).mono P ?_
 rintro _ h1 ⟨rfl, o1, bk1⟩
 have tw1 := tw.keep o1 (by simp)
 have mx1 := mx.keep o1.1 (by simp)
 have lt1 := bk1.lt
 have ltt := tw.mp.lt
 obtain ⟨h2, hrg, rg2, x2, o2, gg2⟩ := range_k (P := P) tw1.mp u56t
 have og2 : Og h1 h2 [] := ⟨o2, gg2⟩
 have bk2 := bk1.keep og2 (by simp) (by simp)
 have x1 := o1.1.1
 repeat' (first | ((with_reducible refine st1 ?_); (conv => whnf); (with_reducible refine ⟨?_⟩)) | ((with_reducible refine retW_intro rfl ?_); (conv => arg 2; whnf)) | ((with_reducible first | refine iB ?_ ?_ | refine gWt ?_ ?_ | refine gWf ?_ ?_) <;> intro hb <;> (try simp only [hb])) | (simp only [B, xB, F, reduceLT, reduceLeDiff, reduceEqDiff, reduceAdd, reduceMul, reduceSub, ↓reduceIte, eq_self, t0, t4, @ex_range, hrg]))
 refine st_loop (fun m ds tm h' => ∃ V R, O2I h2 r rt (h.nx + 1) h.nx h1.nx W m ds tm h' V R) W.length rfl ⟨[], W, rfl, rfl, List.Perm.refl _, by simp only [B, xB, F, reduceLT, reduceLeDiff, reduceEqDiff, reduceAdd, reduceMul, reduceSub, ↓reduceIte, eq_self, t0], by simp only [B, xB, F, reduceLT, reduceLeDiff, reduceEqDiff, reduceAdd, reduceMul, reduceSub, ↓reduceIte, eq_self], by simp only [B, xB, F, reduceLT, reduceLeDiff, reduceEqDiff, reduceAdd, reduceMul, reduceSub, ↓reduceIte, eq_self], rg2, bk2, fun x hx => (by cases hx), Og.refl _ _⟩ (fun m ds tm h' hI => ?_)
 clear t0 t4
 obtain ⟨V, R, rfl, rfl, pm, t0, t9, t46, rg, bk, rd, o2h⟩ := hI
 have x2h := o2h.1.1
 have old : ∀ c, c < h.nx → h'.t.get c = h.t.get c := fun c hc => by
  rw [o2h.1.2 c (by omega) (by simp; omega), o2.2 c (by omega) (by simp), o1.1.2 c hc (by simp)]
 have o0h : Og h0 h' [] := ⟨⟨by omega, fun c hc _ => by rw [old c (by omega)]; exact oo.1.2 c hc (by simp)⟩, by rw [o2h.2, gg2, o1.2, oo.2]⟩
 have mxh : MapK encS h' r (mS X) := mx.get (by omega) (old r mx.lt)
 have c0 := bk.c0
 repeat' (first | (with_reducible refine stopC [0, 0, 0, 1, 0, 1, 1, 1, 1] ?_) | ((with_reducible refine st1 ?_); (conv => whnf); (with_reducible refine ⟨?_⟩)) | ((with_reducible refine retW_intro rfl ?_); (conv => arg 2; whnf)) | ((with_reducible first | refine iB ?_ ?_ | refine gWt ?_ ?_ | refine gWf ?_ ?_) <;> intro hb <;> (try simp only [hb])) | (simp only [B, xB, F, reduceLT, reduceLeDiff, reduceEqDiff, reduceAdd, reduceMul, reduceSub, ↓reduceIte, eq_self]))
 refine ⟨pk1 ?_⟩
 (conv => whnf)
 with_reducible refine ⟨?_⟩
 refine pick_k rfl rfl t46 rg (fun hR => ?_) (fun p R1 R2 h4 hR rg4 x4 o4 gg4 hen => ?_)
 ·obtain rfl : R = []:= by unfold mapW at hR; exact List.map_eq_nil_iff.1 hR
  rw [List.append_nil] at pm
  obtain ⟨Bk, hBk⟩ : ∃ Bk, Bk = bookT (prW V) := ⟨_, rfl⟩
  rw [← hBk] at bk
  have hBW : Bk.Perm (bookT (tx (sortedY X))):= by rw [hBk, ← hW]; exact bookT_perm (prW_perm pm)
  have hl := lenB bk
  have bkeys : Bk.map (·.1) = V.map (·.1):= by rw [hBk]; unfold bookT prW; rw [List.map_map, List.map_map]; rfl
  have bnd : (Bk.map (·.1)).Nodup:= by rw [bkeys]; exact (pm.map (·.1)).nodup_iff.2 tw.nd
  have bok : ∀ y, y ∈ Bk → OkRw y ∧ 0 < y.1 ∧ 0 < y.2.1 := by
   intro y hy
   rw [hBk] at hy
   unfold bookT prW at hy
   rw [List.map_map] at hy
   obtain ⟨x, hx, rfl⟩ := List.mem_map.1 hy
   have hxW := pm.mem_iff.1 hx
   have h1 := readOk_len (rd x hx)
   have h2 := hc x hxW
   have h3 := numR_by (bad := false) (hb x hxW).1 (by have := (hb x hxW).2; omega)
   exact ⟨⟨h2.2, h3.2.2, h1.2⟩, h2.1, h1.1⟩
  by_cases q64 : 64 < Bk.length
  ·have d1 : decide (64 < Bk.length) = true := decide_eq_true q64
   repeat' (first | ((with_reducible refine st1 ?_); (conv => whnf); (with_reducible refine ⟨?_⟩)) | ((with_reducible refine retW_intro rfl ?_); (conv => arg 2; whnf)) | ((with_reducible first | refine iB ?_ ?_ | refine gWt ?_ ?_ | refine gWf ?_ ?_) <;> intro hb <;> (try simp only [hb])) | (simp only [B, xB, F, reduceLT, reduceLeDiff, reduceEqDiff, reduceAdd, reduceMul, reduceSub, ↓reduceIte, eq_self, t0, t9, c0, hl, d1]))
   exact .inr ⟨rfl, o0h, fun g => by have := (good_book g).1; rw [← hBW.length_eq] at this; omega⟩
  ·have d1 : decide (64 < Bk.length) = false := decide_eq_false q64
   have vb : ValB Bk := ⟨by omega, bnd, bok⟩
   repeat' (first | ((with_reducible refine st1 ?_); (conv => whnf); (with_reducible refine ⟨?_⟩)) | ((with_reducible refine retW_intro rfl ?_); (conv => arg 2; whnf)) | ((with_reducible first | refine iB ?_ ?_ | refine gWt ?_ ?_ | refine gWf ?_ ?_) <;> intro hb <;> (try simp only [hb])) | (simp only [B, xB, F, reduceLT, reduceLeDiff, reduceEqDiff, reduceAdd, reduceMul, reduceSub, ↓reduceIte, eq_self, t0, t9, c0, hl, d1]))
   refine ((pairsC h' _ _ Bk bk (gl.keep o0h (by simp)) (fun y hy => (bok y hy).1)).call P).mono P ?_
   rintro _ h5 ⟨ro, V2, rfl, o5, gro, hV2, m5⟩
   have hnd : ((allP V2).map (·.1)).Nodup := by
    obtain ⟨R, hR, so⟩ := sort_rows Bk bnd
    have hk := allP_keys so (fun y hy => (bok y (hR.mem_iff.1 hy)).1)
    exact ((allP_perm (hV2.trans hR.symm)).map (·.1)).nodup_iff.2 (nodup_of_lt hk)
   have m5 : MapK encS h5 ro (mS (allP V2)) := by
    have := outF_mS (allP V2) [] (by simpa using hnd)
    rw [List.nil_append] at this
    rw [← this]; exact m5
   have mx5 := mxh.keep o5.1 (by simp)
   have hal := allP_len (L := V2) (fun y hy => (bok y (hV2.mem_iff.1 hy)).1)
   have hV2l := hV2.length_eq
   repeat' (first | ((with_reducible refine st1 ?_); (conv => whnf); (with_reducible refine ⟨?_⟩)) | ((with_reducible refine retW_intro rfl ?_); (conv => arg 2; whnf)) | ((with_reducible first | refine iB ?_ ?_ | refine gWt ?_ ?_ | refine gWf ?_ ?_) <;> intro hb <;> (try simp only [hb])) | (simp only [B, xB, F, reduceLT, reduceLeDiff, reduceEqDiff, reduceAdd, reduceMul, reduceSub, ↓reduceIte, eq_self, t0, t9]))
   refine ((equalC h5 ro r (allP V2) X m5 mx5 ox.nd (by omega)).call P).mono P ?_
   rintro _ h6 ⟨e, ⟨rfl, o6⟩, he⟩
   have o06 := (o0h.t o5).t o6
   cases e with
   | true =>
    obtain ⟨e1, e2⟩ := he.1 rfl
    have hpm : (allP V2).Perm X := perm_sub (nodup_of_map hnd) e2 (by omega)
    repeat' (first | ((with_reducible refine st1 ?_); (conv => whnf); (with_reducible refine ⟨?_⟩)) | ((with_reducible refine retW_intro rfl ?_); (conv => arg 2; whnf)) | ((with_reducible first | refine iB ?_ ?_ | refine gWt ?_ ?_ | refine gWf ?_ ?_) <;> intro hb <;> (try simp only [hb])) | (simp only [B, xB, F, reduceLT, reduceLeDiff, reduceEqDiff, reduceAdd, reduceMul, reduceSub, ↓reduceIte, eq_self, t0, t9, Bool.not_true]))
    refine .inl ⟨h.nx + 1, h.nx, Bk, rfl, (bk.keep o5 (by simp) (by simp)).keep o6 (by simp) (by simp), vb, (allP_perm hV2.symm).trans hpm, o06, by omega, by omega⟩
   | false =>
    repeat' (first | ((with_reducible refine st1 ?_); (conv => whnf); (with_reducible refine ⟨?_⟩)) | ((with_reducible refine retW_intro rfl ?_); (conv => arg 2; whnf)) | ((with_reducible first | refine iB ?_ ?_ | refine gWt ?_ ?_ | refine gWf ?_ ?_) <;> intro hb <;> (try simp only [hb])) | (simp only [B, xB, F, reduceLT, reduceLeDiff, reduceEqDiff, reduceAdd, reduceMul, reduceSub, ↓reduceIte, eq_self, t0, t9, Bool.not_false]))
    refine .inr ⟨rfl, o06, fun g => ?_⟩
    have h1 := (good_book g).2
    have h2 : (allP V2).Perm X := (allP_perm (hV2.trans hBW)).trans h1
    have := he.2 ⟨h2.length_eq, fun p hp => h2.mem_iff.1 hp⟩
    cases this
 ·obtain ⟨S1, ⟨c, s, w⟩, S2, rfl, e1, rfl, e2⟩ := mapW_split hR
  have hen4 := hen h4 rfl rfl
  have hxW : (c, s, w) ∈ W := pm.mem_iff.1 (by simp)
  have hbx := hb _ hxW
  have gw := tw.gr _ hxW
  have gw4 : Grows 1 base h4 w s.length (bytesR s) := gw.of_get (by omega) (fun b e => by
   have := (gw.base e).2
   rw [o4.2 b (by omega) (by simp; omega)]
   exact old b this)
  have cv := convB gw4 hbx.1
  have og4 : Og h' h4 [h1.nx] := ⟨o4, gg4⟩
  have rl := rg.lt
  repeat' (first | ((with_reducible refine st1 ?_); (conv => whnf); (with_reducible refine ⟨?_⟩)) | ((with_reducible refine retW_intro rfl ?_); (conv => arg 2; whnf)) | ((with_reducible first | refine iB ?_ ?_ | refine gWt ?_ ?_ | refine gWf ?_ ?_) <;> intro hb <;> (try simp only [hb])) | (simp only [B, xB, F, reduceLT, reduceLeDiff, reduceEqDiff, reduceAdd, reduceMul, reduceSub, ↓reduceIte, eq_self, t0, t9, t46, @ex_entry, hen4, cv]))
  refine ((readC h4 s hbx.1 (by have := hbx.2; simp only at this; omega)).call P).mono P ?_
  rintro _ h5 ⟨rfl, o5⟩
  obtain ⟨n, hn⟩ : ∃ n, n = (readV s).1 := ⟨_, rfl⟩
  obtain ⟨u, hu0⟩ : ∃ u, u = (readV s).2 := ⟨_, rfl⟩
  rw [← hn, ← hu0]
  obtain ⟨h6, h6e⟩ : ∃ h6, h6 = (h5.newCells 65 [.int .u64 (.ofNat 0), .str []]).sts h5.nx 0 [.int .u64 (.ofNat n), .str u] := ⟨_, rfl⟩
  have o6 : Og h5 h6 []:= by rw [h6e]; exact ((Og.refl _ _).new _ _).sts (.inr (Nat.le_refl _))
  have x6 : h6.nx = h5.nx + 1:= by rw [h6e, nx_sts, nx_new]
  have z0 : cellAt h6 h5.nx 0 = some (.int .u64 (.ofNat n)):= by rw [h6e, cellAt_sts (by rw [wrAt_new, if_pos rfl]), if_pos ⟨rfl, Nat.zero_le _, by simp⟩]; rfl
  have z1 : cellAt h6 h5.nx 1 = some (.str u):= by rw [h6e, cellAt_sts (by rw [wrAt_new, if_pos rfl]), if_pos ⟨rfl, Nat.zero_le _, by simp⟩]; rfl
  have x5 := o5.1.1
  have o46 := o5.t o6
  have ne1 : h.nx + 1 ≠ h1.nx:= by omega
  have ne2 : h.nx ≠ h1.nx:= by omega
  have bk6 := (bk.keep og4 (by simp; omega) (by simp; omega)).keep o46 (by simp) (by simp)
  have c6 := bk6.c0
  cases hro : readOk s with
  | false =>
   repeat' (first | ((with_reducible refine st1 ?_); (conv => whnf); (with_reducible refine ⟨?_⟩)) | ((with_reducible refine retW_intro rfl ?_); (conv => arg 2; whnf)) | ((with_reducible first | refine iB ?_ ?_ | refine gWt ?_ ?_ | refine gWf ?_ ?_) <;> intro hb <;> (try simp only [hb])) | (simp only [B, xB, F, reduceLT, reduceLeDiff, reduceEqDiff, reduceAdd, reduceMul, reduceSub, ↓reduceIte, eq_self, t0, t9, t46, ← h6e, Bool.not_false]))
   refine .inr ⟨rfl, ⟨⟨by omega, fun d hd _ => by rw [o46.1.2 d (by omega) (by simp), o4.2 d (by omega) (by simp; omega)]; exact o0h.1.2 d hd (by simp)⟩, by rw [o46.2, gg4]; exact o0h.2⟩, fun g => ?_⟩
   have hm : (c, s) ∈ tx (sortedY X):= by rw [← hW]; exact List.mem_map.2 ⟨_, hxW, rfl⟩
   have := good_read g hm
   simp only at this
   rw [hro] at this; cases this
  | true =>
   obtain ⟨h7, hu, m7, x7, o7, gg7⟩ := update_k (P := P) u52a k26 bk6.mm c (lsA (n, u))
   have hu : updateA P 53 (.map h.nx) (.int .u64 (.ofNat c)) (.agg [.int .u64 (.ofNat n), .str u]) h6 = some h7 := hu
   have hcV : c ∉ (bookT (prW V)).map (·.1) := by
    have : (bookT (prW V)).map (·.1) = V.map (·.1):= by unfold bookT prW; rw [List.map_map, List.map_map]; rfl
    rw [this]
    have nd := (pm.map (·.1)).nodup_iff.2 tw.nd
    rw [List.map_append, List.nodup_append] at nd
    exact fun q => nd.2.2 c q c (by simp) rfl
   rw [put_mapV, putB_new hcV] at m7
   repeat' (first | ((with_reducible refine st1 ?_); (conv => whnf); (with_reducible refine ⟨?_⟩)) | ((with_reducible refine retW_intro rfl ?_); (conv => arg 2; whnf)) | ((with_reducible first | refine iB ?_ ?_ | refine gWt ?_ ?_ | refine gWf ?_ ?_) <;> intro hb <;> (try simp only [hb])) | (simp only [B, xB, F, reduceLT, reduceLeDiff, reduceEqDiff, reduceAdd, reduceMul, reduceSub, ↓reduceIte, eq_self, t0, t9, t46, ← h6e, Bool.not_true]))
   repeat' (first | ((with_reducible refine st1 ?_); (conv => whnf); (with_reducible refine ⟨?_⟩)) | ((with_reducible refine st_dw ?_ rfl rfl ?_ ?_); exact rfl; kernel_rfl; (conv => arg 5; whnf); (conv => arg 3; whnf)) | ((with_reducible refine retW_intro rfl ?_); (conv => arg 2; whnf)) | ((with_reducible first | refine iB ?_ ?_ | refine gWt ?_ ?_ | refine gWf ?_ ?_ | refine gXt ?_ ?_ | refine gXf ?_ ?_) <;> intro hb <;> (try simp only [hb])) | ((with_reducible show drawI _ _ _ _ _ _ _ _ _); first | ((with_reducible refine kI_rd ?_ ?_); exact rfl) | ((with_reducible apply kI_rg); exact rfl; exact rfl) | ((with_reducible refine kI_cv ?_ ?_ ?_); exact rfl; kernel_rfl) | ((with_reducible apply kI_al); exact rfl; exact rfl) | ((with_reducible refine kI_ex ?_ ?_ ?_ ?_ ?_); exact rfl; kernel_rfl; exact rfl) | ((with_reducible apply kI_eg); exact rfl; kernel_rfl; exact rfl) | ((with_reducible refine kI_nl ?_ ?_))) | ((with_reducible show eOk _ _ _ _ _ _); first | (exact eok_nil) | (refine ke_rd ?_ ?_ ?_; exact rfl) | (apply ke_rg; exact rfl; exact rfl) | (refine ke_cv ?_ ?_ ?_ ?_; exact rfl; kernel_rfl) | (apply ke_fl; exact rfl) | (apply ke_al; exact rfl; exact rfl)) | ((with_reducible refine freshIs_new ?_); kernel_rfl) | (simp only [B, xB, F, reduceLT, reduceLeDiff, reduceEqDiff, reduceAdd, reduceMul, reduceSub, ↓reduceIte, eq_self, t0, t9, t46, c6, z0, z1, @ex_mapUpdate, hu, oH_some]))
   have og7 : Og h6 h7 [h.nx] := ⟨o7, gg7⟩
   refine ⟨(S1 ++ S2).length, by simp, V ++ [(c, s, w)], S1 ++ S2, rfl, rfl, perm_step pm, by simp only [B, xB, F, reduceLT, reduceLeDiff, reduceEqDiff, reduceAdd, reduceMul, reduceSub, ↓reduceIte, eq_self, t0], by simp only [B, xB, F, reduceLT, reduceLeDiff, reduceEqDiff, reduceAdd, reduceMul, reduceSub, ↓reduceIte, eq_self, t9], by simp only [B, xB, F, reduceLT, reduceLeDiff, reduceEqDiff, reduceAdd, reduceMul, reduceSub, ↓reduceIte, eq_self, t46], ?_, ⟨by have := bk6.lt; omega, kc c6 og7 bk6.lt (by simp), ?_, bk.ne⟩, fun x hx => ?_, ⟨⟨by omega, fun d hd hS => ?_⟩, by rw [gg7, o46.2, gg4, o2h.2]⟩⟩
   ·rw [mapW_app, mapW_app, e1, e2]
    exact (rg4.keep o46.1 (by simp) (by simp)).keep o7 (by simp; omega) (by simp; omega)
   ·have : bookT (prW (V ++ [(c, s, w)])) = bookT (prW V) ++ [(c, n, u)] := by
     unfold bookT prW
     rw [List.map_append, List.map_append, hn, hu0]; rfl
    rw [this]; exact m7
   ·rcases List.mem_append.1 hx with hx | hx
    ·exact rd x hx
    ·rw [List.mem_singleton] at hx; subst hx; exact hro
   ·simp only [List.mem_cons, List.mem_nil_iff, or_false, not_or] at hS
    rw [o7.2 d (by omega) (by simp; omega), o46.1.2 d (by omega) (by simp), o4.2 d (by omega) (by simp; omega)]
    exact o2h.1.2 d hd (by simp; omega)
theorem openC (h0 : H) (gl : Gl h0) (r : Nat) (X : List Kp) (ox : OkX X) (mx : MapK encS h0 r (mS X)) : PushC P (.enter 6 [.map r] h0) (OpenPost h0 X) := by
 have ltr := mx.lt
 obtain ⟨h1, h1e⟩ : ∃ h1, h1 = h0.alloc (.map [] 0) := ⟨_, rfl⟩
 have o1 : Og h0 h1 []:= by rw [h1e]; exact (Og.refl _ _).alloc _
 have x1 : h1.nx = h0.nx + 1:= by rw [h1e]; rfl
 have m1 : MapK encU h1 h0.nx (mapW []):= by rw [h1e]; exact newMap h0 encU
 have mx1 := mx.keep o1.1 (by simp)
 have hkl : (ksX X).length = X.length:= by unfold ksX; rw [sortS_len, List.length_map]
 have kmem : ∀ k, k ∈ ksX X → isBy k ∧ k.length ≤ 200 := fun k hk => by
  unfold ksX at hk
  rw [(sortS_perm _).mem_iff] at hk
  obtain ⟨p, hp, rfl⟩ := List.mem_map.1 hk
  exact ⟨(ox.ok p hp).1, (ox.ok p hp).2.2.1⟩
 have oln := ox.ln
 refine pushC_of_codeW (fn := Tryz.f6) (c := bodyC Tryz.f6) Tryz.func6 rfl ?_
 show codeW P 6 80 none _ _ _ _ _
 refine codeW_root ?_
 repeat' (first | ((with_reducible refine st1 ?_); (conv => whnf); (with_reducible refine ⟨?_⟩)) | ((with_reducible refine retW_intro rfl ?_); (conv => arg 2; whnf)) | ((with_reducible first | refine iB ?_ ?_ | refine gWt ?_ ?_ | refine gWf ?_ ?_) <;> intro hb <;> (try simp only [hb])) | (simp only [B, xB, F, reduceLT, reduceLeDiff, reduceEqDiff, reduceAdd, reduceMul, reduceSub, ↓reduceIte, eq_self, mk56, ← h1e]))
 refine ((keysC h1 r).call P).mono P ?_
 rintro _ _ ⟨rfl, rfl⟩
 repeat' (first | ((with_reducible refine st1 ?_); (conv => whnf); (with_reducible refine ⟨?_⟩)) | ((with_reducible refine retW_intro rfl ?_); (conv => arg 2; whnf)) | ((with_reducible first | refine iB ?_ ?_ | refine gWt ?_ ?_ | refine gWf ?_ ?_) <;> intro hb <;> (try simp only [hb])) | (simp only [B, xB, F, reduceLT, reduceLeDiff, reduceEqDiff, reduceAdd, reduceMul, reduceSub, ↓reduceIte, eq_self]))
 refine sortedC mx1 ox.nd (by omega) (fun p hp => by have := (ox.ok p hp).2.2.1; omega) (fun kv hs gk oks => ?_)
 have os := o1.t oks
 have xs := oks.1.1
 have gko := gk.one
 have gkl := gk.len (P := P) u67a
 have kvl : (strs (sortS (X.map (·.1)))).length = X.length:= by unfold strs; rw [List.length_map, sortS_len, List.length_map]
 have tw0 : TxAt hs h0.nx hs.nx [] := ⟨m1.keep oks.1 (by simp), List.nodup_nil, fun x hx => (by cases hx), List.Pairwise.nil, by omega, Nat.le_refl _⟩
 have mxs := mx.keep os.1 (by simp)
 repeat' (first | ((with_reducible refine st1 ?_); (conv => whnf); (with_reducible refine ⟨?_⟩)) | ((with_reducible refine retW_intro rfl ?_); (conv => arg 2; whnf)) | ((with_reducible first | refine iB ?_ ?_ | refine gWt ?_ ?_ | refine gWf ?_ ?_) <;> intro hb <;> (try simp only [hb])) | (simp only [B, xB, F, reduceLT, reduceLeDiff, reduceEqDiff, reduceAdd, reduceMul, reduceSub, ↓reduceIte, eq_self, gko, gkl]))
 refine st_loop (fun m ds tm h => ∃ i W, O1I hs r h0.nx X kv m ds tm h i W) (ksX X).length rfl ⟨0, [], rfl, rfl, Nat.zero_le _, by simp only [B, xB, F, reduceLT, reduceLeDiff, reduceEqDiff, reduceAdd, reduceMul, reduceSub, ↓reduceIte, eq_self], by simp only [B, xB, F, reduceLT, reduceLeDiff, reduceEqDiff, reduceAdd, reduceMul, reduceSub, ↓reduceIte, eq_self], by simp only [B, xB, F, reduceLT, reduceLeDiff, reduceEqDiff, reduceAdd, reduceMul, reduceSub, ↓reduceIte, eq_self], by simp only [B, xB, F, reduceLT, reduceLeDiff, reduceEqDiff, reduceAdd, reduceMul, reduceSub, ↓reduceIte, eq_self, hkl], by simp only [B, xB, F, reduceLT, reduceLeDiff, reduceEqDiff, reduceAdd, reduceMul, reduceSub, ↓reduceIte, eq_self], tw0, rfl, fun x hx => (by cases hx), fun x hx => (by cases hx), Og.refl _ _⟩ (fun m ds tm h hI => ?_)
 obtain ⟨i, W, rfl, rfl, ii, t0, t4, t17, t18, t19, tw, pw, bb, cl, oo⟩ := hI
 have xo := oo.1.1
 have mxh := mxs.keep oo.1 (by simp; omega)
 by_cases hi : i < (ksX X).length
 ·have d1 : decide (i < (ksX X).length) = true := decide_eq_true hi
  obtain ⟨k, hk⟩ : ∃ k, (ksX X)[i]? = some k := ⟨_, List.getElem?_eq_getElem hi⟩
  have km := List.mem_of_getElem? hk
  have kby := kmem k km
  have vby := ox.val k
  obtain ⟨bk, ok, ck, rfl, hbk, hbk2, hck⟩ : ∃ bk ok ck, kv = .slice bk ok X.length ck ∧ h1.nx + 1 ≤ bk ∧ bk < hs.nx ∧ cellAt hs bk (ok + i) = some (.str k) := by
   generalize hcs : strs (sortS (X.map (·.1))) = cs at gk
   generalize hn : X.length = n at gk
   cases gk with
   | none => omega
   | cell b n cs t ty g1 g2 g3 g4 g5 =>
    refine ⟨b, 0, .opn 0, rfl, g1, g2, ?_⟩
    unfold cellAt
    rw [g4]
    simp only [Nat.zero_add, g5, ← hcs]
    unfold strs
    rw [List.getElem?_map, show (sortS (X.map (·.1)))[i]? = some k from hk]; rfl
  have cellk := kc hck oo (by omega) (by simp; omega)
  have lt1 : (i < X.length) = True:= by simp; omega
  repeat' (first | ((with_reducible refine st1 ?_); (conv => whnf); (with_reducible refine ⟨?_⟩)) | ((with_reducible refine retW_intro rfl ?_); (conv => arg 2; whnf)) | ((with_reducible first | refine iB ?_ ?_ | refine gWt ?_ ?_ | refine gWf ?_ ?_) <;> intro hb <;> (try simp only [hb])) | (simp only [B, xB, F, reduceLT, reduceLeDiff, reduceEqDiff, reduceAdd, reduceMul, reduceSub, ↓reduceIte, eq_self, t0, t4, t17, t18, t19, d1, lt1, Nat.mul_one, cellk]))
  refine ((clientC h k kby.1 (by omega)).call P).mono P ?_
  rintro v h2 ⟨n, ⟨rfl, o2⟩, hn⟩
  have oo2 : Og hs h2 [h0.nx] := ⟨⟨by have := o2.1.1; omega, fun c hc hS => by rw [o2.1.2 c (by omega) (by simp)]; exact oo.1.2 c hc hS⟩, by rw [o2.2]; exact oo.2⟩
  have o02 : Og h0 h2 [] := ⟨⟨by have := o2.1.1; omega, fun c hc _ => by rw [oo2.1.2 c (by omega) (by simp; omega)]; exact os.1.2 c hc (by simp)⟩, by rw [oo2.2]; exact os.2⟩
  cases hcl : cliOf k with
  | none =>
   have e1 : (cliOf k).isSome = false:= by rw [hcl]; rfl
   repeat' (first | ((with_reducible refine st1 ?_); (conv => whnf); (with_reducible refine ⟨?_⟩)) | ((with_reducible refine retW_intro rfl ?_); (conv => arg 2; whnf)) | ((with_reducible first | refine iB ?_ ?_ | refine gWt ?_ ?_ | refine gWf ?_ ?_) <;> intro hb <;> (try simp only [hb])) | (simp only [B, xB, F, reduceLT, reduceLeDiff, reduceEqDiff, reduceAdd, reduceMul, reduceSub, ↓reduceIte, eq_self, t0, t4, t17, t18, t19, e1, Option.isSome_none, Bool.not_false]))
   exact .inr ⟨rfl, o02, fun g => by obtain ⟨c, hc, _⟩ := good_key g km; rw [hcl] at hc; cases hc⟩
  | some c =>
   obtain rfl := hn c hcl
   have hclt := cliOf_lt hcl
   by_cases q0 : n = 0
   ·have d0 : decide (n = 0) = true := decide_eq_true q0
    repeat' (first | ((with_reducible refine st1 ?_); (conv => whnf); (with_reducible refine ⟨?_⟩)) | ((with_reducible refine retW_intro rfl ?_); (conv => arg 2; whnf)) | ((with_reducible first | refine iB ?_ ?_ | refine gWt ?_ ?_ | refine gWf ?_ ?_) <;> intro hb <;> (try simp only [hb])) | (simp only [B, xB, F, reduceLT, reduceLeDiff, reduceEqDiff, reduceAdd, reduceMul, reduceSub, ↓reduceIte, eq_self, t0, t4, t17, t18, t19, Option.isSome_some, Bool.not_true, d0]))
    exact .inr ⟨rfl, o02, fun g => by obtain ⟨c, hc, hc0⟩ := good_key g km; rw [hcl] at hc; cases hc; omega⟩
   ·have d0 : decide (n = 0) = false := decide_eq_false q0
    have tw2 := tw.keep o2 (by simp)
    have mx2 := mxh.keep o2.1 (by simp)
    have lk := lookup_k (P := P) u31a k9 z9a mx2 k false
    have lk : lookupA P 25 (.map r) (.str k) false h2 = some (.str (valX k X)) := lk.trans (congrArg some (get_mS k X))
    have lt := lookup_k (P := P) u56t k26 z37t tw2.mp n false
    have lt : lookupA P 56 (.map h0.nx) (.int .u64 (.ofNat n)) false h2 = some ((mapGet n (mapW W)).getD .nilslice) := lt
    rw [get_mapW] at lt
    obtain ⟨t, w, hgw, hwe, gw, tby⟩ : ∃ t w, (getW n W = some (t, w) ∨ getW n W = none ∧ t = [] ∧ w = .nilslice) ∧ ((getW n W).map (·.2)).getD .nilslice = w ∧ Grows 1 hs.nx h2 w t.length (bytesR t) ∧ isBy t ∧ t.length ≤ i * 200 := by
     cases hg : getW n W with
     | none => exact ⟨[], .nilslice, .inr ⟨rfl, rfl, rfl⟩, rfl, .none, fun c hc => (by cases hc), by simp⟩
     | some x =>
      obtain ⟨t, w⟩ := x
      have hm := getW_mem hg
      exact ⟨t, w, .inl rfl, rfl, tw2.gr _ hm, (bb _ hm).1, (bb _ hm).2⟩
    rw [hwe] at lt
    repeat' (first | ((with_reducible refine st1 ?_); (conv => whnf); (with_reducible refine ⟨?_⟩)) | ((with_reducible refine retW_intro rfl ?_); (conv => arg 2; whnf)) | ((with_reducible first | refine iB ?_ ?_ | refine gWt ?_ ?_ | refine gWf ?_ ?_) <;> intro hb <;> (try simp only [hb])) | (simp only [B, xB, F, reduceLT, reduceLeDiff, reduceEqDiff, reduceAdd, reduceMul, reduceSub, ↓reduceIte, eq_self, t0, t4, t17, t18, t19, Option.isSome_some, Bool.not_true, d0, @ex_lookup, lk, lt]))
    have hi2 : i * 200 ≤ 4000 * 200 := Nat.mul_le_mul_right 200 (by omega)
    have xo2 := oo2.1.1
    refine appStr gw tw2.bs (valX k X) (by omega) (fun v3 h3 g3 x3 old3 bl3 gg3 => ?_)
    have hwb : ∀ b, b < hs.nx → blkOf w ≠ some b := fun b hb e => by have := (gw.base e).1; omega
    have m3 : MapK encU h3 h0.nx (mapW W) := tw2.mp.get x3 (old3 _ tw2.mp.lt (hwb _ (by omega)))
    obtain ⟨h4, hu, m4, x4, o4, gg4⟩ := update_k (P := P) u56t k26 m3 n v3
    have hu : updateA P 56 (.map h0.nx) (.int .u64 (.ofNat n)) v3 h3 = some h4 := hu
    have tw4 := tw2.step hgw g3 x3 old3 bl3 m4 ⟨o4, gg4⟩
    have wi : wrapF .i64 (Int.ofNat i + Int.ofNat 1) = Int.ofNat (i + 1) := i64_add (by omega)
    repeat' (first | ((with_reducible refine st1 ?_); (conv => whnf); (with_reducible refine ⟨?_⟩)) | ((with_reducible refine retW_intro rfl ?_); (conv => arg 2; whnf)) | ((with_reducible first | refine iB ?_ ?_ | refine gWt ?_ ?_ | refine gWf ?_ ?_) <;> intro hb <;> (try simp only [hb])) | (simp only [B, xB, F, reduceLT, reduceLeDiff, reduceEqDiff, reduceAdd, reduceMul, reduceSub, ↓reduceIte, eq_self, t0, t4, t17, t18, t19, @ex_mapUpdate, hu, oH_some, wi]))
    refine ⟨(ksX X).length - (i + 1), by omega, i + 1, putW n (t ++ valX k X) v3 W, rfl, rfl, by omega, by simp only [B, xB, F, reduceLT, reduceLeDiff, reduceEqDiff, reduceAdd, reduceMul, reduceSub, ↓reduceIte, eq_self, t0], by simp only [B, xB, F, reduceLT, reduceLeDiff, reduceEqDiff, reduceAdd, reduceMul, reduceSub, ↓reduceIte, eq_self, t4], by simp only [B, xB, F, reduceLT, reduceLeDiff, reduceEqDiff, reduceAdd, reduceMul, reduceSub, ↓reduceIte, eq_self, t17], by simp only [B, xB, F, reduceLT, reduceLeDiff, reduceEqDiff, reduceAdd, reduceMul, reduceSub, ↓reduceIte, eq_self, t18], by simp only [B, xB, F, reduceLT, reduceLeDiff, reduceEqDiff, reduceAdd, reduceMul, reduceSub, ↓reduceIte, eq_self], tw4, ?_, fun x hx => ?_, fun x hx => ?_, ⟨⟨by omega, fun c hc hS => ?_⟩, by rw [gg4, gg3, oo2.2]⟩⟩
    ·rw [prW_put n (valX k X) v3 W t w (by rcases hgw with q | ⟨q1, q2, _⟩; exact .inl q; exact .inr ⟨q1, q2⟩), pw, yX_s hk, tx_s]
     unfold cliN
     rw [hcl]; rfl
    ·rcases putW_mem tw.nd hx with rfl | ⟨hx, _⟩
     ·refine ⟨fun c hc => ?_, ?_⟩
      ·rcases List.mem_append.1 hc with hc | hc
       ·exact tby.1 c hc
       ·exact vby.1 c hc
      ·show (t ++ valX k X).length ≤ _
       rw [List.length_append]; omega
     ·have := bb x hx
      exact ⟨this.1, by omega⟩
    ·rcases putW_mem tw.nd hx with rfl | ⟨hx, _⟩
     ·exact ⟨by show 0 < n; omega, hclt⟩
     ·exact cl x hx
    ·rw [o4.2 c (by omega) hS, old3 c (by have := oo2.1.1; omega) (hwb c hc)]
     exact oo2.1.2 c hc hS
 ·have d1 : decide (i < (ksX X).length) = false := decide_eq_false hi
  obtain rfl : i = (ksX X).length:= by omega
  rw [yX_all] at pw
  have o0h : Og h0 h [] := ⟨⟨by omega, fun c hc _ => by rw [oo.1.2 c (by omega) (by simp; omega)]; exact os.1.2 c hc (by simp)⟩, by rw [oo.2]; exact os.2⟩
  repeat' (first | (with_reducible refine stopC [1, 1, 1] ?_) | ((with_reducible refine st1 ?_); (conv => whnf); (with_reducible refine ⟨?_⟩)) | ((with_reducible refine retW_intro rfl ?_); (conv => arg 2; whnf)) | ((with_reducible first | refine iB ?_ ?_ | refine gWt ?_ ?_ | refine gWf ?_ ?_) <;> intro hb <;> (try simp only [hb])) | (simp only [B, xB, F, reduceLT, reduceLeDiff, reduceEqDiff, reduceAdd, reduceMul, reduceSub, ↓reduceIte, eq_self, t0, t4, t17, t18, t19, d1]))
  exact ⟨openTail h0 h gl r h0.nx hs.nx X ox W tw pw (fun x hx => ⟨(bb x hx).1, by have := (bb x hx).2; have : (ksX X).length * 200 ≤ 4000 * 200 := Nat.mul_le_mul_right 200 (by omega); omega⟩) cl mxh o0h (Nat.le_refl _) ltr _ (by simp only [B, xB, F, reduceLT, reduceLeDiff, reduceEqDiff, reduceAdd, reduceMul, reduceSub, ↓reduceIte, eq_self, t0]) (by simp only [B, xB, F, reduceLT, reduceLeDiff, reduceEqDiff, reduceAdd, reduceMul, reduceSub, ↓reduceIte, eq_self, t4])⟩
end
end Go.Proofs.YtllmfnedkhiomaaGreatDoor.S

namespace Go.Proofs.YtllmfnedkhiomaaGreatDoor.S
open Go Go.AX
noncomputable section
theorem sub_len {α : Type} : ∀ {l m : List α}, l.Nodup → (∀ x, x ∈ l → x ∈ m) → l.length ≤ m.length
 | [], m, _, _ => by simp
 | x :: l, m, nd, hs => by
  rw [List.nodup_cons] at nd
  obtain ⟨m1, m2, rfl⟩ := List.append_of_mem (hs x (by simp))
  have ih : l.length ≤ (m1 ++ m2).length := sub_len nd.2 (fun y hy => by
   have := hs y (by simp [hy])
   rw [List.mem_append, List.mem_cons] at this
   rw [List.mem_append]
   rcases this with q | rfl | q
   ·exact .inl q
   ·exact absurd hy nd.1
   ·exact .inr q)
  simp at ih ⊢; omega
structure St (Bk : List Rw) (X : List Kp) (ls : List Nat) (rs : List (List Nat)) (i : Nat) : Prop where
 nd : (Bk.map (·.1)).Nodup
 cl : ∀ y, y ∈ Bk → 1 ≤ y.1 ∧ y.1 ≤ 8
 ok : ∀ y, y ∈ Bk → 0 < y.2.1 ∧ y.2.1 ≤ i ∧ y.2.2.length ≤ 800 ∧ isBy y.2.2
 ll : ls.length = 8
 rl : rs.length = 8
 gt : ∀ (k n : Nat) (s : List Nat), ls[k]? = some n → rs[k]? = some s → getB (k + 1) Bk = if n = 0 then none else some (n, s)
 pm : (allP Bk).Perm X
 xn : (X.map (·.1)).Nodup
theorem len8 {Bk : List Rw} (nd : (Bk.map (·.1)).Nodup) (cl : ∀ y, y ∈ Bk → 1 ≤ y.1 ∧ y.1 ≤ 8) : Bk.length ≤ 8 := by
 have := sub_len (m := [1, 2, 3, 4, 5, 6, 7, 8]) nd (fun x hx => by
  obtain ⟨y, hy, rfl⟩ := List.mem_map.1 hx
  have := cl y hy
  simp; omega)
 simpa using this
theorem okRw_of {y : Rw} {i : Nat} (hi : i ≤ 1000) (h1 : 1 ≤ y.1 ∧ y.1 ≤ 8) (h2 : 0 < y.2.1 ∧ y.2.1 ≤ i ∧ y.2.2.length ≤ 800 ∧ isBy y.2.2) : OkRw y := by
 have hM : M64 = 18446744073709551616 := rfl
 exact ⟨by omega, by omega, by omega⟩
theorem St.val {Bk : List Rw} {X : List Kp} {ls : List Nat} {rs : List (List Nat)} {i : Nat} (st : St Bk X ls rs i) (hi : i ≤ 1000) : ValB Bk :=
 ⟨by have := len8 st.nd st.cl; omega, st.nd, fun y hy => ⟨okRw_of hi (st.cl y hy) (st.ok y hy), (st.cl y hy).1, (st.ok y hy).1⟩⟩
theorem hexF_by : ∀ (d n : Nat), isBy (hexF n d)
 | 0, n => fun c hc => by cases hc
 | d + 1, n => fun c hc => by
  unfold hexF at hc
  rcases List.mem_append.1 hc with q | q
  ·exact hexF_by d _ c q
  ·rw [List.mem_singleton] at q; subst q
   exact hexD_lt (Nat.mod_lt _ (by omega))
theorem keyP_eq {c i : Nat} (hc : c < 281474976710656) (hi : i < 256) : keyP c i = 115 :: (hexF c 12 ++ (45 :: hexF i 2)) := by
 have h12 : hexP c 12 = hexF c 12 := (hexF_P 12 c (by omega) (by omega)).symm
 have h2 : hexP i 2 = hexF i 2 := (hexF_P 2 i (by omega) (by omega)).symm
 unfold keyP; rw [h12, h2, List.append_assoc]; rfl
theorem keyP_by {c i : Nat} (hc : c < 281474976710656) (hi : i < 256) : isBy (keyP c i) ∧ (keyP c i).length = 16 := by
 rw [keyP_eq hc hi]
 refine ⟨fun x hx => ?_, by rw [List.length_cons, List.length_append, List.length_cons, hexF_len, hexF_len]⟩
 rcases List.mem_cons.1 hx with rfl | hx
 ·omega
 ·rcases List.mem_append.1 hx with hx | hx
  ·exact hexF_by _ _ x hx
  ·rcases List.mem_cons.1 hx with rfl | hx
   ·omega
   ·exact hexF_by _ _ x hx
theorem textP_by {n : Nat} {s : List Nat} (hn : n < M64) (hs : s.length < M64) (hb : isBy s) : isBy (textP n s) := fun c hc => by
 unfold textP at hc
 rcases List.mem_append.1 hc with hc | hc
 ·rcases List.mem_append.1 hc with hc | hc
  ·exact encN_byte hn c hc
  ·exact encN_byte hs c hc
 ·exact hb c hc
theorem mem_allP {Bk : List Rw} {p : Kp} : p ∈ allP Bk ↔ ∃ y, y ∈ Bk ∧ ∃ j, j < cntP (textP y.2.1 y.2.2) ∧ p = (keyP y.1 j, pieceP (textP y.2.1 y.2.2) j) := by
 unfold allP
 rw [List.mem_flatMap]
 constructor
 ·rintro ⟨y, hy, hp⟩
  unfold prs at hp
  obtain ⟨j, hj, rfl⟩ := List.mem_map.1 hp
  exact ⟨y, hy, j, List.mem_range.1 hj, rfl⟩
 ·rintro ⟨y, hy, j, hj, rfl⟩
  refine ⟨y, hy, ?_⟩
  unfold prs
  exact List.mem_map.2 ⟨j, List.mem_range.2 hj, rfl⟩
theorem cnt_60 {y : Rw} (h : OkRw y) : cntP (textP y.2.1 y.2.2) ≤ 60 := by
 have h60 := prs_len h
 obtain ⟨c, n, s⟩ := y
 rw [prs_len'] at h60
 exact h60
theorem piece_ok {s : List Nat} {j : Nat} (h : j < cntP s) : pieceP s j ≠ [] ∧ (pieceP s j).length ≤ 96 := by
 unfold cntP at h
 unfold pieceP
 refine ⟨fun e => ?_, by rw [List.length_take]; omega⟩
 have := congrArg List.length e
 rw [List.length_take, List.length_drop, List.length_nil] at this
 omega
theorem mem_ok {Bk : List Rw} {X : List Kp} {ls : List Nat} {rs : List (List Nat)} {i : Nat} (st : St Bk X ls rs i) (hi : i ≤ 1000) {p : Kp} (hp : p ∈ allP Bk) : isBy p.1 ∧ isBy p.2 ∧ p.1.length = 16 ∧ p.2.length ≤ 96 ∧ p.2 ≠ [] := by
 obtain ⟨y, hy, j, hj, rfl⟩ := mem_allP.1 hp
 have ho := (st.val hi).ok y hy
 have hk := keyP_by ho.1.1 (i := j) (by have := cnt_60 ho.1; omega)
 have hpo := piece_ok hj
 have h3 := st.ok y hy
 have hM : M64 = 18446744073709551616 := rfl
 refine ⟨hk.1, fun c hc => ?_, hk.2, hpo.2, hpo.1⟩
 unfold pieceP at hc
 exact textP_by ho.1.2.1 (by have := h3.2.2.1; omega) h3.2.2.2 c (List.mem_of_mem_drop (List.mem_of_mem_take hc))
theorem St.okX {Bk : List Rw} {X : List Kp} {ls : List Nat} {rs : List (List Nat)} {i : Nat} (st : St Bk X ls rs i) (hi : i ≤ 1000) : OkX X := by
 refine ⟨st.xn, fun p hp => ?_, ?_⟩
 ·have := mem_ok st hi (st.pm.mem_iff.2 hp)
  exact ⟨this.1, this.2.1, by omega, by omega⟩
 ·rw [← st.pm.length_eq]
  have h1 := allP_len (L := Bk) (fun y hy => ((st.val hi).ok y hy).1)
  have := len8 st.nd st.cl
  omega
theorem getB_perm {Xa Xb : List Rw} (h : Xa.Perm Xb) (nd : (Xa.map (·.1)).Nodup) (c : Nat) : getB c Xa = getB c Xb := by
 have nb := (h.map (·.1)).nodup_iff.1 nd
 cases q : getB c Xb with
 | none =>
  rw [getB_none] at q ⊢
  exact fun e => q ((h.map (·.1)).mem_iff.1 e)
 | some y => rw [getB_some nb] at q; rw [getB_some nd]; exact h.mem_iff.2 q
theorem St.open {Bk Bk2 : List Rw} {X : List Kp} {ls : List Nat} {rs : List (List Nat)} {i : Nat} (st : St Bk X ls rs i) (hi : i ≤ 1000) (hv : ValB Bk2) (hp : (allP Bk2).Perm X) : St Bk2 X ls rs i := by
 have h := good_one hv hp (st.val hi) st.pm
 refine ⟨hv.nd, fun y hy => st.cl y (h.mem_iff.1 hy), fun y hy => st.ok y (h.mem_iff.1 hy), st.ll, st.rl, fun k n s h1 h2 => ?_, hp, st.xn⟩
 rw [getB_perm h hv.nd]; exact st.gt k n s h1 h2
theorem St.mono {Bk : List Rw} {X : List Kp} {ls : List Nat} {rs : List (List Nat)} {i j : Nat} (st : St Bk X ls rs i) (h : i ≤ j) : St Bk X ls rs j :=
 ⟨st.nd, st.cl, fun y hy => by have := st.ok y hy; exact ⟨this.1, by omega, this.2.2⟩, st.ll, st.rl, st.gt, st.pm, st.xn⟩
def dlt (c n : Nat) (s : List Nat) (m : Nat) : List Kp := restP c (cntP (textP n s)) m ++ newP c (textP n s) (cntP (textP n s))
def oldN (c : Nat) (Bk : List Rw) : Nat := match getB c Bk with | none => 0 | some y => cntP (textP y.1 y.2)
theorem mem_rest {c a m : Nat} {p : Kp} : p ∈ restP c a m ↔ ∃ j, a ≤ j ∧ j < m ∧ p = (keyP c j, []) := by
 unfold restP
 rw [List.mem_map]
 constructor
 ·rintro ⟨j, hj, rfl⟩
  rw [List.mem_range'_1] at hj
  exact ⟨j, hj.1, by omega, rfl⟩
 ·rintro ⟨j, h1, h2, rfl⟩
  exact ⟨j, by rw [List.mem_range'_1]; omega, rfl⟩
theorem mem_new {c a : Nat} {s : List Nat} {p : Kp} : p ∈ newP c s a ↔ ∃ j, j < a ∧ p = (keyP c j, pieceP s j) := by
 unfold newP
 rw [List.mem_map]
 constructor
 ·rintro ⟨j, hj, rfl⟩; exact ⟨j, List.mem_range.1 hj, rfl⟩
 ·rintro ⟨j, hj, rfl⟩; exact ⟨j, List.mem_range.2 hj, rfl⟩
theorem dlt_keys {c n m : Nat} {s : List Nat} {k : List Nat} : k ∈ (dlt c n s m).map (·.1) ↔ ∃ j, (j < cntP (textP n s) ∨ j < m) ∧ k = keyP c j := by
 unfold dlt
 rw [List.map_append, List.mem_append, List.mem_map, List.mem_map]
 constructor
 ·rintro (⟨p, hp, rfl⟩ | ⟨p, hp, rfl⟩)
  ·obtain ⟨j, h1, h2, rfl⟩ := mem_rest.1 hp
   exact ⟨j, .inr h2, rfl⟩
  ·obtain ⟨j, h1, rfl⟩ := mem_new.1 hp
   exact ⟨j, .inl h1, rfl⟩
 ·rintro ⟨j, h, rfl⟩
  by_cases q : j < cntP (textP n s)
  ·exact .inr ⟨_, mem_new.2 ⟨j, q, rfl⟩, rfl⟩
  ·exact .inl ⟨_, mem_rest.2 ⟨j, by omega, by omega, rfl⟩, rfl⟩
theorem keyP_inj {c d i j : Nat} (hc : c < 281474976710656) (hd : d < 281474976710656) (hi : i < 256) (hj : j < 256) (h : keyP c i = keyP d j) : c = d ∧ i = j := by
 have e1 := cliOf_key hc hi
 rw [h, cliOf_key hd hj] at e1
 have e := Option.some.inj e1
 subst e
 refine ⟨rfl, ?_⟩
 by_cases q : i = j
 ·exact q
 ·exact absurd h (key_ne _ q hi hj)
def Done1 (X V Z : List Kp) : Prop := (Z.map (·.1)).Nodup ∧ ∀ p : Kp, p ∈ Z ↔ if p.1 ∈ V.map (·.1) then p ∈ V ∧ p.2 ≠ [] else p ∈ X
theorem done_nil {X : List Kp} (h : (X.map (·.1)).Nodup) : Done1 X [] X := ⟨h, fun p => by simp⟩
theorem del_memS {k : List Nat} : ∀ {Z : List Kp}, (Z.map (·.1)).Nodup → ∃ Z', mapDel k (mS Z) = mS Z' ∧ (Z'.map (·.1)).Nodup ∧ ∀ p, p ∈ Z' ↔ p ∈ Z ∧ p.1 ≠ k
 | [], _ => ⟨[], rfl, List.nodup_nil, fun p => by simp⟩
 | (a, w) :: Z, nd => by
  rw [List.map_cons, List.nodup_cons] at nd
  by_cases q : k = a
  ·subst q
   refine ⟨Z, del_hd Z, nd.2, fun p => ⟨fun h => ⟨by simp [h], fun e => nd.1 (by rw [← e]; exact List.mem_map.2 ⟨p, h, rfl⟩)⟩, fun h => ?_⟩⟩
   rcases List.mem_cons.1 h.1 with e | e
   ·exact absurd (by rw [e]) h.2
   ·exact e
  ·obtain ⟨Z', e, n', hm⟩ := del_memS (k := k) nd.2
   refine ⟨(a, w) :: Z', ?_, ?_, fun p => ?_⟩
   ·show mapDel k ((a, .str w) :: mS Z) = (a, .str w) :: mS Z'
    unfold mapDel
    rw [if_neg q, e]
   ·rw [List.map_cons, List.nodup_cons]
    refine ⟨fun h => ?_, n'⟩
    obtain ⟨p, hp, e⟩ := List.mem_map.1 h
    exact nd.1 (by rw [← show p.1 = a from e]; exact List.mem_map.2 ⟨p, ((hm p).1 hp).1, rfl⟩)
   ·rw [List.mem_cons, List.mem_cons, hm]
    constructor
    ·rintro (e | ⟨e1, e2⟩)
     ·exact ⟨.inl e, by rw [e]; exact fun x => q x.symm⟩
     ·exact ⟨.inr e1, e2⟩
    ·rintro ⟨e | e, h⟩
     ·exact .inl e
     ·exact .inr ⟨e, h⟩
theorem put_memS {k v : List Nat} : ∀ {Z : List Kp}, (Z.map (·.1)).Nodup → ∃ Z', mapPut k (.str v) (mS Z) = mS Z' ∧ (Z'.map (·.1)).Nodup ∧ ∀ p, p ∈ Z' ↔ p = (k, v) ∨ p ∈ Z ∧ p.1 ≠ k
 | [], _ => ⟨[(k, v)], rfl, by simp, fun p => by simp⟩
 | (a, w) :: Z, nd => by
  rw [List.map_cons, List.nodup_cons] at nd
  by_cases q : k = a
  ·subst q
   refine ⟨(k, v) :: Z, ?_, by rw [List.map_cons, List.nodup_cons]; exact nd, fun p => ?_⟩
   ·show mapPut k (.str v) ((k, .str w) :: mS Z) = _
    unfold mapPut
    rw [if_pos rfl]; rfl
   ·rw [List.mem_cons, List.mem_cons]
    constructor
    ·rintro (e | e)
     ·exact .inl e
     ·exact .inr ⟨.inr e, fun x => nd.1 (by rw [← x]; exact List.mem_map.2 ⟨p, e, rfl⟩)⟩
    ·rintro (e | ⟨e | e, h⟩)
     ·exact .inl e
     ·exact absurd (by rw [e]) h
     ·exact .inr e
  ·obtain ⟨Z', e, n', hm⟩ := put_memS (k := k) (v := v) nd.2
   refine ⟨(a, w) :: Z', ?_, ?_, fun p => ?_⟩
   ·show mapPut k (.str v) ((a, .str w) :: mS Z) = (a, .str w) :: mS Z'
    unfold mapPut
    rw [if_neg q, e]
   ·rw [List.map_cons, List.nodup_cons]
    refine ⟨fun h => ?_, n'⟩
    obtain ⟨p, hp, e⟩ := List.mem_map.1 h
    rcases (hm p).1 hp with rfl | ⟨h1, h2⟩
    ·exact q e
    ·exact nd.1 (by rw [← show p.1 = a from e]; exact List.mem_map.2 ⟨p, h1, rfl⟩)
   ·rw [List.mem_cons, List.mem_cons, hm]
    constructor
    ·rintro (e | e | ⟨e1, e2⟩)
     ·exact .inr ⟨.inl e, by rw [e]; exact fun x => q x.symm⟩
     ·exact .inl e
     ·exact .inr ⟨.inr e1, e2⟩
    ·rintro (e | ⟨e | e, h⟩)
     ·exact .inr (.inl e)
     ·exact .inl e
     ·exact .inr (.inr ⟨e, h⟩)
theorem Done1.del {X V Z : List Kp} (d : Done1 X V Z) {k : List Nat} (hk : k ∉ V.map (·.1)) : ∃ Z', mapDel k (mS Z) = mS Z' ∧ Done1 X (V ++ [(k, [])]) Z' := by
 obtain ⟨Z', e, nd, hm⟩ := del_memS (k := k) d.1
 refine ⟨Z', e, nd, fun p => ?_⟩
 rw [hm, d.2]
 simp only [List.map_append, List.mem_append]
 by_cases q : p.1 = k
 ·simp only [q, ne_eq, not_true_eq_false, and_false, false_iff]
  simp only [List.map_cons, List.map_nil, List.mem_singleton, or_true, if_true]
  rintro ⟨h | h, h2⟩
  ·exact hk (by rw [← q]; exact List.mem_map_of_mem h)
  ·exact h2 (by rw [h])
 ·have e1 : p.1 ∈ List.map (·.1) [(k, ([] : List Nat))] ↔ False:= by simp [q]
  have e2 : p ∈ [(k, ([] : List Nat))] ↔ False := by
   simp only [List.mem_singleton, iff_false]
   exact fun h => q (by rw [h])
  rw [e2]
  simp only [e1, or_false, ne_eq, q, not_false_eq_true, and_true]
theorem Done1.put {X V Z : List Kp} (d : Done1 X V Z) {k v : List Nat} (hk : k ∉ V.map (·.1)) (hv : v ≠ []) : ∃ Z', mapPut k (.str v) (mS Z) = mS Z' ∧ Done1 X (V ++ [(k, v)]) Z' := by
 obtain ⟨Z', e, nd, hm⟩ := put_memS (k := k) (v := v) d.1
 refine ⟨Z', e, nd, fun p => ?_⟩
 rw [hm, d.2]
 simp only [List.map_append, List.mem_append]
 by_cases q : p.1 = k
 ·simp only [q, ne_eq, not_true_eq_false, and_false, or_false]
  simp only [List.map_cons, List.map_nil, List.mem_singleton, or_true, if_true]
  constructor
  ·intro h; exact ⟨.inr h, by rw [h]; exact hv⟩
  ·rintro ⟨h | h, h2⟩
   ·exact absurd (by rw [← q]; exact List.mem_map_of_mem h) hk
   ·exact h
 ·have e1 : p.1 ∈ List.map (·.1) [(k, v)] ↔ False:= by simp [q]
  have e2 : p ∈ [(k, v)] ↔ False := by
   simp only [List.mem_singleton, iff_false]
   exact fun h => q (by rw [h])
  have e3 : p = (k, v) ↔ False:= by simpa using e2
  rw [e2, e3]
  simp only [e1, or_false, false_or, ne_eq, q, not_false_eq_true, and_true]
theorem Done1.perm {X V W Z : List Kp} (d : Done1 X V Z) (p : V.Perm W) : Done1 X W Z := ⟨d.1, fun q => by rw [d.2]; simp only [(p.map (·.1)).mem_iff, p.mem_iff]⟩
theorem perm_of_mem {Xa Xb : List Kp} (na : Xa.Nodup) (nb : Xb.Nodup) (h : ∀ p, p ∈ Xa ↔ p ∈ Xb) : Xa.Perm Xb := by
 have h1 := sub_len nb (fun x hx => (h x).2 hx)
 exact perm_sub na (fun x hx => (h x).1 hx) h1
theorem allP_nd {Bk : List Rw} (nd : (Bk.map (·.1)).Nodup) (ok : ∀ y, y ∈ Bk → OkRw y) : ((allP Bk).map (·.1)).Nodup := by
 obtain ⟨R, hR, so⟩ := sort_rows Bk nd
 have hk := allP_keys so (fun y hy => ok y (hR.mem_iff.1 hy))
 exact ((allP_perm hR.symm).map (·.1)).nodup_iff.2 (nodup_of_lt hk)
theorem St.put {Bk : List Rw} {X Z : List Kp} {ls : List Nat} {rs : List (List Nat)} {i : Nat} (st : St Bk X ls rs i) (hi : i < 1000) {k l : Nat} {s : List Nat} (hk : k < 8) (hl : ls[k]? = some l) (hli : l ≤ i) (hs : s.length ≤ 800) (hb : isBy s)
  (hd : Done1 X (dlt (k + 1) (l + 1) s (oldN (k + 1) Bk)) Z) : St (putB (k + 1) (l + 1, s) Bk) Z (ls.set k (l + 1)) (rs.set k s) (i + 1) := by
 have hv := st.val (by omega)
 have hmem : ∀ z, z ∈ putB (k + 1) (l + 1, s) Bk ↔ z = (k + 1, l + 1, s) ∨ z.1 ≠ k + 1 ∧ z ∈ Bk := fun z => mem_putB st.nd
 have nd2 : ((putB (k + 1) (l + 1, s) Bk).map (·.1)).Nodup := by
  rw [putB_keys]
  split
  ·exact st.nd
  ·rename_i q
   rw [List.nodup_append]
   refine ⟨st.nd, by simp, fun a ha b hb e => ?_⟩
   simp only [List.mem_singleton] at hb
   exact q (by rw [← hb, ← e]; exact ha)
 have cl2 : ∀ y, y ∈ putB (k + 1) (l + 1, s) Bk → 1 ≤ y.1 ∧ y.1 ≤ 8 := fun y hy => by
  rcases (hmem y).1 hy with rfl | ⟨_, h⟩
  ·simp only; omega
  ·exact st.cl y h
 have ok2 : ∀ y, y ∈ putB (k + 1) (l + 1, s) Bk → 0 < y.2.1 ∧ y.2.1 ≤ i + 1 ∧ y.2.2.length ≤ 800 ∧ isBy y.2.2 := fun y hy => by
  rcases (hmem y).1 hy with rfl | ⟨_, h⟩
  ·exact ⟨by simp, by simp only; omega, hs, hb⟩
  ·have := st.ok y h
   exact ⟨this.1, by omega, this.2.2⟩
 have okr2 : ∀ y, y ∈ putB (k + 1) (l + 1, s) Bk → OkRw y := fun y hy => okRw_of (i := i + 1) (by omega) (cl2 y hy) (ok2 y hy)
 have hc8 : k + 1 < 281474976710656:= by omega
 have hnew : (k + 1, l + 1, s) ∈ putB (k + 1) (l + 1, s) Bk := (hmem _).2 (.inl rfl)
 have cnew : cntP (textP (l + 1) s) ≤ 60 := cnt_60 (okr2 _ hnew)
 have hold : oldN (k + 1) Bk ≤ 60 ∧ ∀ j, j < oldN (k + 1) Bk ↔ ∃ y, y ∈ Bk ∧ y.1 = k + 1 ∧ j < cntP (textP y.2.1 y.2.2) := by
  unfold oldN
  cases hg : getB (k + 1) Bk with
  | none =>
   rw [getB_none] at hg
   refine ⟨by simp, fun j => ⟨fun h => by simp at h, ?_⟩⟩
   rintro ⟨y, hy, e, _⟩
   exact absurd (by rw [← e]; exact List.mem_map_of_mem hy) hg
  | some y =>
   rw [getB_some st.nd] at hg
   refine ⟨cnt_60 (hv.ok _ hg).1, fun j => ⟨fun h => ⟨_, hg, rfl, h⟩, ?_⟩⟩
   rintro ⟨z, hz, e, h⟩
   have : z = (k + 1, y) := by
    have h1 : getB (k + 1) Bk = some z.2 := (getB_some st.nd).2 (by rw [← e]; exact hz)
    have h2 : getB (k + 1) Bk = some y := (getB_some st.nd).2 hg
    rw [h1] at h2
    cases h2
    rw [← e]
   rw [this] at h
   exact h
 refine ⟨nd2, cl2, ok2, by rw [List.length_set]; exact st.ll, by rw [List.length_set]; exact st.rl, fun a n t h1 h2 => ?_, ?_, hd.1⟩
 ·rw [getB_put]
  by_cases q : a = k
  ·subst q
   rw [List.getElem?_set_self (by rw [st.ll]; omega)] at h1
   rw [List.getElem?_set_self (by rw [st.rl]; omega)] at h2
   cases h1; cases h2
   rw [if_pos rfl, if_neg (by omega)]
  ·rw [List.getElem?_set_ne (fun e => q e.symm)] at h1 h2
   rw [if_neg (by omega)]
   exact st.gt a n t h1 h2
 ·refine perm_of_mem (nodup_of_map (allP_nd nd2 okr2)) (nodup_of_map hd.1) (fun p => ?_)
  rw [hd.2, mem_allP]
  by_cases q : p.1 ∈ (dlt (k + 1) (l + 1) s (oldN (k + 1) Bk)).map (·.1)
  ·rw [if_pos q]
   obtain ⟨j, hj, e⟩ := dlt_keys.1 q
   constructor
   ·rintro ⟨y, hy, j2, hj2, rfl⟩
    have hyo := okr2 y hy
    have := cnt_60 hyo
    simp only at e
    obtain ⟨e1, e2⟩ := keyP_inj hyo.1 hc8 (by omega) (by omega) e
    subst e2
    rcases (hmem y).1 hy with rfl | ⟨h1, _⟩
    ·refine ⟨?_, (piece_ok hj2).1⟩
     unfold dlt
     rw [List.mem_append]
     exact .inr (mem_new.2 ⟨j2, hj2, rfl⟩)
    ·exact absurd e1 h1
   ·rintro ⟨h1, h2⟩
    unfold dlt at h1
    rcases List.mem_append.1 h1 with h1 | h1
    ·obtain ⟨_, _, _, rfl⟩ := mem_rest.1 h1
     exact absurd rfl h2
    ·obtain ⟨j2, hj2, rfl⟩ := mem_new.1 h1
     exact ⟨_, hnew, j2, hj2, rfl⟩
  ·rw [if_neg q, ← st.pm.mem_iff, mem_allP]
   constructor
   ·rintro ⟨y, hy, j2, hj2, rfl⟩
    rcases (hmem y).1 hy with rfl | ⟨_, h⟩
    ·exact absurd (dlt_keys.2 ⟨j2, .inl hj2, rfl⟩) q
    ·exact ⟨y, h, j2, hj2, rfl⟩
   ·rintro ⟨y, hy, j2, hj2, rfl⟩
    refine ⟨y, (hmem y).2 (.inr ⟨fun e => q ?_, hy⟩), j2, hj2, rfl⟩
    exact dlt_keys.2 ⟨j2, .inr ((hold.2 j2).2 ⟨y, hy, e, hj2⟩), by simp only; rw [e]⟩
end
end Go.Proofs.YtllmfnedkhiomaaGreatDoor.S

namespace Go.Proofs.YtllmfnedkhiomaaGreatDoor.S
open Go Go.AX
noncomputable section
set_option maxRecDepth 100000
theorem u27t : P.underlying 27 = some (.array 8 26):= by kernel_rfl
theorem u28t : P.underlying 28 = some (.array 8 9):= by kernel_rfl
theorem u29t : P.underlying 29 = some (.array 2 5):= by kernel_rfl
theorem co26 : P.cellsOf 26 = 1:= by kernel_rfl
theorem co9 : P.cellsOf 9 = 1:= by kernel_rfl
theorem ok26a : okT P 26 = true:= by kernel_rfl
theorem ok9a : okT P 9 = true:= by kernel_rfl
theorem ok5a : okT P 5 = true:= by kernel_rfl
theorem ia27 (b : Nat) (kd : IntKind) (i : Nat) (hi : i < 8) : indexAddrA P 27 (.ptr b 0) (.int kd (.ofNat i)) = some (.ptr b i) := by
 have hb : Nat.blt i 8 = true:= by rw [Nat.blt_eq]; exact hi
 unfold indexAddrA
 simp only [u27t, hb, ok26a, co26, Bool.true_and, Nat.zero_add, Nat.mul_one]
theorem ia28 (b : Nat) (kd : IntKind) (i : Nat) (hi : i < 8) : indexAddrA P 28 (.ptr b 0) (.int kd (.ofNat i)) = some (.ptr b i) := by
 have hb : Nat.blt i 8 = true:= by rw [Nat.blt_eq]; exact hi
 unfold indexAddrA
 simp only [u28t, hb, ok9a, co9, Bool.true_and, Nat.zero_add, Nat.mul_one]
theorem ia29 (b o : Nat) (kd : IntKind) (i : Nat) (hi : i < 2) : indexAddrA P 29 (.ptr b o) (.int kd (.ofNat i)) = some (.ptr b (o + i)) := by
 have hb : Nat.blt i 2 = true:= by rw [Nat.blt_eq]; exact hi
 unfold indexAddrA
 simp only [u29t, hb, ok5a, co5, Bool.true_and, Nat.mul_one]
structure OnS (h0 h : H) (b5 b6 lm bb rb : Nat) (Bk : List Rw) (X : List Kp) (ls : List Nat) (rs : List (List Nat)) (i : Nat) : Prop where
 oo : Og h0 h []
 bk : BkAt h bb rb Bk
 mx : MapK encS h lm (mS X)
 st : St Bk X ls rs i
 c5 : ∀ k v, ls[k]? = some v → cellAt h b5 k = some (.int .u64 (.ofNat v))
 c6 : ∀ (k : Nat) (s : List Nat), rs[k]? = some s → cellAt h b6 k = some (.str s)
 w5 : wrAt h b5 = true
 w6 : wrAt h b6 = true
 lv : ∀ (k : Nat) (v : Nat), ls[k]? = some v → v ≤ i
 ge : h0.nx ≤ bb ∧ h0.nx ≤ rb ∧ h0.nx ≤ lm ∧ h0.nx ≤ b5 ∧ h0.nx ≤ b6
 ne : lm ≠ bb ∧ lm ≠ rb ∧ b5 ≠ bb ∧ b5 ≠ rb ∧ b5 ≠ lm ∧ b6 ≠ bb ∧ b6 ≠ rb ∧ b6 ≠ lm ∧ b5 ≠ b6
 lt : b5 < h.nx ∧ b6 < h.nx
theorem OnS.keep {h0 h h' : H} {b5 b6 lm bb rb : Nat} {Bk : List Rw} {X : List Kp} {ls : List Nat} {rs : List (List Nat)} {i : Nat} (s : OnS h0 h b5 b6 lm bb rb Bk X ls rs i) (o : Og h h' []) : OnS h0 h' b5 b6 lm bb rb Bk X ls rs i :=
 ⟨s.oo.t o, s.bk.keep o (by simp) (by simp), s.mx.keep o.1 (by simp), s.st, fun k v e => kc (s.c5 k v e) o s.lt.1 (by simp), fun k t e => kc (s.c6 k t e) o s.lt.2 (by simp), kw s.w5 o s.lt.1 (by simp), kw s.w6 o s.lt.2 (by simp), s.lv, s.ge, s.ne, ⟨Nat.lt_of_lt_of_le s.lt.1 o.1.1, Nat.lt_of_lt_of_le s.lt.2 o.1.1⟩⟩
structure ReI (hs : H) (lm it ro : Nat) (X D : List Kp) (tmx : T AV) (m : Nat) (ds : List Nat) (tm : T AV) (h : H) (V R Z : List Kp) : Prop where
 ds : ds = []
 nn : m = R.length
 pm : (V ++ R).Perm D
 tt : ∀ t, t < 19 → tm.get t = tmx.get t
 t176 : tm.get 176 = some (.ptr it 0)
 rg : RngK encS h it ro (mS D) (mS V) (mS R)
 mz : MapK encS h lm (mS Z)
 dn : Done1 X V Z
 oo : Og hs h [lm, it]
structure ChI (hs : H) (lm it ra : Nat) (Z Y : List Kp) (tmx : T AV) (m : Nat) (ds : List Nat) (tm : T AV) (h : H) (V R : List Kp) : Prop where
 ds : ds = []
 nn : m = R.length
 pm : (V ++ R).Perm Y
 tt : ∀ t, t < 19 → tm.get t = tmx.get t
 t203 : tm.get 203 = some (.ptr it 0)
 rg : RngK encS h it ra (mS Y) (mS V) (mS R)
 oo : Og hs h []
set_option maxHeartbeats 4000000 in
theorem onceTail (h0 h : H) (gl : Gl h0) (vl : AV) (b5 b6 lm bb rb ro : Nat) (Bk : List Rw) (X : List Kp) (ls : List Nat) (rs : List (List Nat)) (i k l : Nat) (s : List Nat) (hi : i < 200) (hk : k < 8) (hl : ls[k]? = some l) (hs : s.length ≤ 800) (hsb : isBy s)
  (oo : Og h0 h []) (bk : BkAt h bb rb (putB (k + 1) (l + 1, s) Bk)) (mx : MapK encS h lm (mS X)) (st : St Bk X ls rs i)
  (c5 : ∀ k v, ls[k]? = some v → cellAt h b5 k = some (.int .u64 (.ofNat v))) (c6 : ∀ (k : Nat) (s : List Nat), rs[k]? = some s → cellAt h b6 k = some (.str s)) (w5 : wrAt h b5 = true) (w6 : wrAt h b6 = true)
  (lv : ∀ (k : Nat) (v : Nat), ls[k]? = some v → v ≤ i) (ge : h0.nx ≤ bb ∧ h0.nx ≤ rb ∧ h0.nx ≤ lm ∧ h0.nx ≤ b5 ∧ h0.nx ≤ b6) (ne : lm ≠ bb ∧ lm ≠ rb ∧ b5 ≠ bb ∧ b5 ≠ rb ∧ b5 ≠ lm ∧ b6 ≠ bb ∧ b6 ≠ rb ∧ b6 ≠ lm ∧ b5 ≠ b6) (lt : b5 < h.nx ∧ b6 < h.nx)
  (md : MapK encS h ro (mS (dlt (k + 1) (l + 1) s (oldN (k + 1) Bk)))) (hro : ro ≠ lm) (dnd : ((dlt (k + 1) (l + 1) s (oldN (k + 1) Bk)).map (·.1)).Nodup)
  (tm : T AV) (t0 : tm.get 0 = some vl) (t3 : tm.get 3 = some (.ptr bb 0)) (t4 : tm.get 4 = some (.map lm)) (t5 : tm.get 5 = some (.ptr b5 0)) (t6 : tm.get 6 = some (.ptr b6 0)) (t7 : tm.get 7 = some (.int .i64 (.ofNat i)))
  (t8 : tm.get 8 = some (.int .i64 (.ofNat k))) (t10 : tm.get 10 = some (.int .u64 (.ofNat (l + 1)))) (t16 : tm.get 16 = some (.str s)) (t17 : tm.get 17 = some (.map ro)) (K : KQ)
  (hK : ∀ (tm2 : T AV) (h2 : H) (Bk2 : List Rw) (Z : List Kp) (ls2 : List Nat) (rs2 : List (List Nat)), OnS h0 h2 b5 b6 lm bb rb Bk2 Z ls2 rs2 (i + 1) → tm2.get 0 = some vl → tm2.get 3 = some (.ptr bb 0) → tm2.get 4 = some (.map lm) → tm2.get 5 = some (.ptr b5 0) → tm2.get 6 = some (.ptr b6 0) → tm2.get 7 = some (.int .i64 (.ofNat i)) → K .norm [] tm2 h2) :
  codeW P 3 229 none (codeI (bodyC Tryz.f3) [1, 1, 1, 1, 1, 1, 1, 1, 1, 0, 0, 1, 0, 0, 1, 0, 1, 1, 1, 1, 1]) [] tm h K := by
 have e0 : bytesOf { data := #[] } = [] := rfl
 obtain ⟨D, hD⟩ : ∃ D, D = dlt (k + 1) (l + 1) s (oldN (k + 1) Bk) := ⟨_, rfl⟩
 rw [← hD] at md dnd
 obtain ⟨h1, hrg, rg1, x1, o1, gg1⟩ := range_k (P := P) md u31a
 have og1 : Og h h1 [] := ⟨o1, gg1⟩
 have ltm := mx.lt
 have ltr := md.lt
 repeat' (first | ((with_reducible refine st1 ?_); (conv => whnf); (with_reducible refine ⟨?_⟩)) | ((with_reducible refine retW_intro rfl ?_); (conv => arg 2; whnf)) | ((with_reducible first | refine iB ?_ ?_ | refine gWt ?_ ?_ | refine gWf ?_ ?_) <;> intro hb <;> (try simp only [hb])) | (simp only [B, xB, F, reduceLT, reduceLeDiff, reduceEqDiff, reduceAdd, reduceMul, reduceSub, ↓reduceIte, eq_self, t17, @ex_range, hrg]))
 refine st_loop (fun m ds tm' h' => ∃ V R Z, ReI h1 lm h.nx ro X D tm m ds tm' h' V R Z) D.length rfl ⟨[], D, X, rfl, rfl, List.Perm.refl _, fun t ht => by (simp only [B, xB, F, reduceLT, reduceLeDiff, reduceEqDiff, reduceAdd, reduceMul, reduceSub, ↓reduceIte, eq_self]; repeat rw [if_neg (by omega)]), by simp only [B, xB, F, reduceLT, reduceLeDiff, reduceEqDiff, reduceAdd, reduceMul, reduceSub, ↓reduceIte, eq_self], rg1, mx.keep o1 (by simp), done_nil st.xn, Og.refl _ _⟩ (fun m ds tm' h' hI => ?_)
 obtain ⟨V, R, Z, rfl, rfl, pm, tt, t176, rg, mz, dn, o1h⟩ := hI
 have q0 := (tt 0 (by omega)).trans t0
 have q3 := (tt 3 (by omega)).trans t3
 have q4 := (tt 4 (by omega)).trans t4
 have q5 := (tt 5 (by omega)).trans t5
 have q6 := (tt 6 (by omega)).trans t6
 have q7 := (tt 7 (by omega)).trans t7
 have q8 := (tt 8 (by omega)).trans t8
 have q10 := (tt 10 (by omega)).trans t10
 have q16 := (tt 16 (by omega)).trans t16
 have x1h := o1h.1.1
 repeat' (first | (with_reducible refine stopC [0, 0, 0, 1, 0, 1, 1, 1, 1, 1, 1, 1, 1, 1, 0, 0, 1, 0, 0, 1, 0, 1, 1, 1, 1, 1] ?_) | ((with_reducible refine st1 ?_); (conv => whnf); (with_reducible refine ⟨?_⟩)) | ((with_reducible refine retW_intro rfl ?_); (conv => arg 2; whnf)) | ((with_reducible first | refine iB ?_ ?_ | refine gWt ?_ ?_ | refine gWf ?_ ?_) <;> intro hb <;> (try simp only [hb])) | (simp only [B, xB, F, reduceLT, reduceLeDiff, reduceEqDiff, reduceAdd, reduceMul, reduceSub, ↓reduceIte, eq_self]))
 refine ⟨pk1 ?_⟩
 (conv => whnf)
 with_reducible refine ⟨?_⟩
 refine pick_k rfl rfl t176 rg (fun hR => ?_) (fun p R1 R2 h4 hR rg4 x4 o4 gg4 hen => ?_)
 ·obtain rfl : R = []:= by unfold mS at hR; exact List.map_eq_nil_iff.1 hR
  rw [List.append_nil] at pm
  have old : ∀ c, c < h.nx → c ≠ lm → h'.t.get c = h.t.get c := fun c hc hn => by
   rw [o1h.1.2 c (by omega) (by simp; omega), o1.2 c hc (by simp)]
  have st2 := st.put (by omega) hk hl (lv k l hl) hs hsb (by rw [← hD]; exact dn.perm pm)
  have l8 := st.ll
  have r8 := st.rl
  have bk' : BkAt h' bb rb (putB (k + 1) (l + 1, s) Bk) := ⟨by have := bk.lt; omega, by rw [cellAt_of_get (old _ bk.lt (fun e => ne.1 e.symm))]; exact bk.c0, bk.mm.get (by omega) (old _ bk.mm.lt (fun e => ne.2.1 e.symm)), bk.ne⟩
  have w5' : wrAt h' b5 = true:= by rw [wrAt_of_get (old _ lt.1 ne.2.2.2.2.1)]; exact w5
  have w6' : wrAt h' b6 = true:= by rw [wrAt_of_get (old _ lt.2 ne.2.2.2.2.2.2.2.1)]; exact w6
  have c5' : ∀ k v, ls[k]? = some v → cellAt h' b5 k = some (.int .u64 (.ofNat v)) := fun k v e => by rw [cellAt_of_get (old _ lt.1 ne.2.2.2.2.1)]; exact c5 k v e
  have c6' : ∀ (k : Nat) (s : List Nat), rs[k]? = some s → cellAt h' b6 k = some (.str s) := fun k v e => by rw [cellAt_of_get (old _ lt.2 ne.2.2.2.2.2.2.2.1)]; exact c6 k v e
  have a5 := ia27 b5 .i64 k hk
  have a6 := ia28 b6 .i64 k hk
  have y5 := c5' k l hl
  obtain ⟨r0, hr0⟩ : ∃ r0, rs[k]? = some r0 := ⟨_, List.getElem?_eq_getElem (by omega)⟩
  have y6 := c6' k r0 hr0
  obtain ⟨h5, h5e⟩ : ∃ h5, h5 = (h'.sts b5 k [.int .u64 (.ofNat (l + 1))]).sts b6 k [.str s] := ⟨_, rfl⟩
  have n56 := ne.2.2.2.2.2.2.2.2
  have w6s : wrAt (h'.sts b5 k [.int .u64 (.ofNat (l + 1))]) b6 = true:= by rw [wrAt_sts]; exact w6'
  have x5 : h5.nx = h'.nx:= by rw [h5e, nx_sts, nx_sts]
  have old5 : ∀ c, c ≠ b5 → c ≠ b6 → h5.t.get c = h'.t.get c := fun c e1 e2 => by rw [h5e, get_sts _ _ _ _ e2, get_sts _ _ _ _ e1]
  have g5 : h5.g = h'.g:= by rw [h5e, g_sts, g_sts]
  have on5 : OnS h0 h5 b5 b6 lm bb rb (putB (k + 1) (l + 1, s) Bk) Z (ls.set k (l + 1)) (rs.set k s) (i + 1) := by
   refine ⟨⟨⟨by have := oo.1.1; omega, fun c hc _ => ?_⟩, ?_⟩, ⟨by have := bk'.lt; omega, ?_, bk'.mm.get (by omega) (old5 _ (fun e => ne.2.2.2.1 e.symm) (fun e => ne.2.2.2.2.2.2.1 e.symm)), bk'.ne⟩, mz.get (by omega) (old5 _ (fun e => ne.2.2.2.2.1 e.symm) (fun e => ne.2.2.2.2.2.2.2.1 e.symm)), st2, fun a v e => ?_, fun a v e => ?_, ?_, ?_, fun a v e => ?_, ge, ne, by omega⟩
   ·rw [old5 c (by omega) (by omega), old c (by have := oo.1.1; omega) (by omega)]; exact oo.1.2 c hc (by simp)
   ·rw [g5, o1h.2, gg1]; exact oo.2
   ·rw [cellAt_of_get (old5 _ (fun e => ne.2.2.1 e.symm) (fun e => ne.2.2.2.2.2.1 e.symm))]; exact bk'.c0
   ·rw [h5e, cellAt_sts w6s, if_neg (by omega), cellAt_sts w5']
    by_cases q : a = k
    ·subst q
     rw [List.getElem?_set_self (by omega)] at e
     cases e
     rw [if_pos ⟨rfl, Nat.le_refl _, by simp⟩, Nat.sub_self]; rfl
    ·rw [List.getElem?_set_ne (fun x => q x.symm)] at e
     rw [if_neg (by simp; omega)]
     exact c5' a v e
   ·rw [h5e, cellAt_sts w6s]
    by_cases q : a = k
    ·subst q
     rw [List.getElem?_set_self (by omega)] at e
     cases e
     rw [if_pos ⟨rfl, Nat.le_refl _, by simp⟩, Nat.sub_self]; rfl
    ·rw [List.getElem?_set_ne (fun x => q x.symm)] at e
     rw [if_neg (by simp; omega), cellAt_sts w5', if_neg (by omega)]
     exact c6' a v e
   ·rw [h5e, wrAt_sts, wrAt_sts]; exact w5'
   ·rw [h5e, wrAt_sts, wrAt_sts]; exact w6'
   ·by_cases q : a = k
    ·subst q
     rw [List.getElem?_set_self (by omega)] at e
     cases e
     have := lv a l hl
     omega
    ·rw [List.getElem?_set_ne (fun x => q x.symm)] at e
     have := lv a v e
     omega
  repeat' (first | ((with_reducible refine st1 ?_); (conv => whnf); (with_reducible refine ⟨?_⟩)) | ((with_reducible refine retW_intro rfl ?_); (conv => arg 2; whnf)) | ((with_reducible first | refine iB ?_ ?_ | refine gWt ?_ ?_ | refine gWf ?_ ?_) <;> intro hb <;> (try simp only [hb])) | (simp only [B, xB, F, reduceLT, reduceLeDiff, reduceEqDiff, reduceAdd, reduceMul, reduceSub, ↓reduceIte, eq_self, q0, q3, q4, q5, q6, q7, q8, q10, q16, t176, a5, a6, w5', w6', y5, y6, ← h5e, n56, @eq_comm Nat b6 b5]))
  have vb := st2.val (by omega)
  have okr : ∀ y, y ∈ putB (k + 1) (l + 1, s) Bk → OkRw y := fun y hy => (vb.ok y hy).1
  refine ((pairsC h5 bb rb _ on5.bk (gl.keep on5.oo (by simp)) okr).call P).mono P ?_
  rintro _ h6 ⟨ra, V2, rfl, o6, gra, hV2, m6⟩
  have okV : ∀ y, y ∈ V2 → OkRw y := fun y hy => okr y (hV2.mem_iff.1 hy)
  have vnd : (V2.map (·.1)).Nodup := (hV2.map (·.1)).nodup_iff.2 vb.nd
  have hnd := allP_nd vnd okV
  have m6 : MapK encS h6 ra (mS (allP V2)) := by
   have := outF_mS (allP V2) [] (by simpa using hnd)
   rw [List.nil_append] at this
   rw [← this]; exact m6
  have hpZ : (allP V2).Perm Z := (allP_perm hV2).trans st2.pm
  have on6 := on5.keep o6
  have la := len_k (P := P) u31a m6 [] []
  have lb := len_k (P := P) u31a on6.mx [] []
  rw [show (mS (allP V2)).length = (allP V2).length by unfold mS; simp] at la
  rw [show (mS Z).length = Z.length by unfold mS; simp] at lb
  have dl : decide ((allP V2).length = Z.length) = true := decide_eq_true hpZ.length_eq
  obtain ⟨h7, hrg7, rg7, x7, o7, gg7⟩ := range_k (P := P) m6 u31a
  have og7 : Og h6 h7 [] := ⟨o7, gg7⟩
  have on7 := on6.keep og7
  repeat' (first | ((with_reducible refine st1 ?_); (conv => whnf); (with_reducible refine ⟨?_⟩)) | ((with_reducible refine retW_intro rfl ?_); (conv => arg 2; whnf)) | ((with_reducible first | refine iB ?_ ?_ | refine gWt ?_ ?_ | refine gWf ?_ ?_) <;> intro hb <;> (try simp only [hb])) | (simp only [B, xB, F, reduceLT, reduceLeDiff, reduceEqDiff, reduceAdd, reduceMul, reduceSub, ↓reduceIte, eq_self, q0, q3, q4, q5, q6, q7, la, lb, dl, Bool.not_true, @ex_range, hrg7]))
  refine st_loop (fun m ds tm'' h'' => ∃ V R, ChI h6 lm h6.nx ra Z (allP V2) tm' m ds tm'' h'' V R) (allP V2).length rfl ⟨[], allP V2, rfl, rfl, List.Perm.refl _, fun t ht => by (simp only [B, xB, F, reduceLT, reduceLeDiff, reduceEqDiff, reduceAdd, reduceMul, reduceSub, ↓reduceIte, eq_self]; repeat rw [if_neg (by omega)]), by simp only [B, xB, F, reduceLT, reduceLeDiff, reduceEqDiff, reduceAdd, reduceMul, reduceSub, ↓reduceIte, eq_self], rg7, og7⟩ (fun m ds tm'' h'' hI2 => ?_)
  obtain ⟨W, R3, rfl, rfl, pm3, tt3, t203, rg3, o3⟩ := hI2
  have p0 := (tt3 0 (by omega)).trans q0
  have p3 := (tt3 3 (by omega)).trans q3
  have p4 := (tt3 4 (by omega)).trans q4
  have p5 := (tt3 5 (by omega)).trans q5
  have p6 := (tt3 6 (by omega)).trans q6
  have p7 := (tt3 7 (by omega)).trans q7
  have on8 := on6.keep o3
  repeat' (first | (with_reducible refine stopC [0, 0, 0, 1, 1, 1, 1, 1, 1, 1, 1, 1, 1, 1, 1, 1, 1, 0, 0, 1, 0, 0, 1, 0, 1, 1, 1, 1, 1] ?_) | ((with_reducible refine st1 ?_); (conv => whnf); (with_reducible refine ⟨?_⟩)) | ((with_reducible refine retW_intro rfl ?_); (conv => arg 2; whnf)) | ((with_reducible first | refine iB ?_ ?_ | refine gWt ?_ ?_ | refine gWf ?_ ?_) <;> intro hb <;> (try simp only [hb])) | (simp only [B, xB, F, reduceLT, reduceLeDiff, reduceEqDiff, reduceAdd, reduceMul, reduceSub, ↓reduceIte, eq_self]))
  refine ⟨pk1 ?_⟩
  (conv => whnf)
  with_reducible refine ⟨?_⟩
  refine pick_k rfl rfl t203 rg3 (fun hR2 => ?_) (fun p2 U1 U2 h9 hR2 rg9 x9 o9 gg9 hen2 => ?_)
  ·obtain rfl : R3 = []:= by unfold mS at hR2; exact List.map_eq_nil_iff.1 hR2
   repeat' (first | ((with_reducible refine st1 ?_); (conv => whnf); (with_reducible refine ⟨?_⟩)) | ((with_reducible refine retW_intro rfl ?_); (conv => arg 2; whnf)) | ((with_reducible first | refine iB ?_ ?_ | refine gWt ?_ ?_ | refine gWf ?_ ?_) <;> intro hb <;> (try simp only [hb])) | (simp only [B, xB, F, reduceLT, reduceLeDiff, reduceEqDiff, reduceAdd, reduceMul, reduceSub, ↓reduceIte, eq_self, p0, p3, p4, p5, p6, p7]))
   exact hK _ _ _ _ _ _ on8 (by simp only [B, xB, F, reduceLT, reduceLeDiff, reduceEqDiff, reduceAdd, reduceMul, reduceSub, ↓reduceIte, eq_self, p0]) (by simp only [B, xB, F, reduceLT, reduceLeDiff, reduceEqDiff, reduceAdd, reduceMul, reduceSub, ↓reduceIte, eq_self, p3]) (by simp only [B, xB, F, reduceLT, reduceLeDiff, reduceEqDiff, reduceAdd, reduceMul, reduceSub, ↓reduceIte, eq_self, p4]) (by simp only [B, xB, F, reduceLT, reduceLeDiff, reduceEqDiff, reduceAdd, reduceMul, reduceSub, ↓reduceIte, eq_self, p5]) (by simp only [B, xB, F, reduceLT, reduceLeDiff, reduceEqDiff, reduceAdd, reduceMul, reduceSub, ↓reduceIte, eq_self, p6]) (by simp only [B, xB, F, reduceLT, reduceLeDiff, reduceEqDiff, reduceAdd, reduceMul, reduceSub, ↓reduceIte, eq_self, p7])
  ·obtain ⟨S1, ⟨ky, vy⟩, S2, rfl, e1, rfl, e2⟩ := mS_split hR2
   have hen3 := hen2 h9 rfl rfl
   have rl3 := rg3.lt
   have x3 := o3.1.1
   have o79 : Og h6 h9 [] := ⟨⟨by omega, fun c hc _ => by rw [o9.2 c (by omega) (by simp; omega)]; exact o3.1.2 c hc (by simp)⟩, by rw [gg9]; exact o3.2⟩
   have on9 := on6.keep o79
   have hm : (ky, vy) ∈ allP V2 := pm3.mem_iff.1 (by simp)
   have hmo := mem_ok st2 (by omega) ((allP_perm hV2).mem_iff.1 hm)
   have lk := lookup_k (P := P) u31a k9 z9a on9.mx ky false
   have lk : lookupA P 25 (.map lm) (.str ky) false h9 = some (.str (valX ky Z)) := lk.trans (congrArg some (get_mS ky Z))
   have hvx : valX ky Z = vy := valX_mem st2.xn (hpZ.mem_iff.1 hm)
   rw [hvx] at lk
   have b1 : decide (24 < ky.length) = false := decide_eq_false (by have := hmo.2.2.1; simp only at this; omega)
   have b2 : decide (96 < vy.length) = false := decide_eq_false (by have := hmo.2.2.2.1; simp only at this; omega)
   have b3 : decide (vy = []) = false := decide_eq_false hmo.2.2.2.2
   have b4 : decide (vy = vy) = true := decide_eq_true rfl
   repeat' (first | ((with_reducible refine st1 ?_); (conv => whnf); (with_reducible refine ⟨?_⟩)) | ((with_reducible refine retW_intro rfl ?_); (conv => arg 2; whnf)) | ((with_reducible first | refine iB ?_ ?_ | refine gWt ?_ ?_ | refine gWf ?_ ?_) <;> intro hb <;> (try simp only [hb])) | (simp only [B, xB, F, reduceLT, reduceLeDiff, reduceEqDiff, reduceAdd, reduceMul, reduceSub, ↓reduceIte, eq_self, p0, p3, p4, p5, p6, p7, t203, @ex_entry, hen3, @ex_lookup, lk, b1, b2, b3, b4, Bool.not_true, e0]))
   refine ⟨(S1 ++ S2).length, by simp, W ++ [(ky, vy)], S1 ++ S2, rfl, rfl, perm_step pm3, fun t ht => by (simp only [B, xB, F, reduceLT, reduceLeDiff, reduceEqDiff, reduceAdd, reduceMul, reduceSub, ↓reduceIte, eq_self]; (repeat rw [if_neg (by omega)]); exact tt3 t ht), by simp only [B, xB, F, reduceLT, reduceLeDiff, reduceEqDiff, reduceAdd, reduceMul, reduceSub, ↓reduceIte, eq_self, t203], by rw [mS_app, mS_app, e1, e2]; exact rg9, o79⟩
 ·obtain ⟨S1, ⟨ky, vy⟩, S2, rfl, e1, rfl, e2⟩ := mS_split hR
  have hen4 := hen h4 rfl rfl
  have rl := rg.lt
  have og4 : Og h' h4 [h.nx] := ⟨o4, gg4⟩
  have mz4 := mz.keep o4 (by simp; omega)
  have hkV : ky ∉ V.map (·.1) := by
   have nd := (pm.map (·.1)).nodup_iff.2 dnd
   rw [List.map_append, List.nodup_append] at nd
   exact fun q => nd.2.2 ky q ky (by simp) rfl
  by_cases qv : vy = []
  ·have b1 : decide (vy = []) = true := decide_eq_true qv
   obtain ⟨h5, hu, m5, x5, o5, gg5⟩ := bi_delete_k (P := P) u31a k9 mz4 ky [9] []
   have hu : builtinA P .delete [25, 9] [.map lm, .str ky] h4 = .val und h5 := hu
   obtain ⟨Z', ez, dz⟩ := dn.del hkV
   rw [ez] at m5
   repeat' (first | ((with_reducible refine st1 ?_); (conv => whnf); (with_reducible refine ⟨?_⟩)) | ((with_reducible refine retW_intro rfl ?_); (conv => arg 2; whnf)) | ((with_reducible first | refine iB ?_ ?_ | refine gWt ?_ ?_ | refine gWf ?_ ?_) <;> intro hb <;> (try simp only [hb])) | (simp only [B, xB, F, reduceLT, reduceLeDiff, reduceEqDiff, reduceAdd, reduceMul, reduceSub, ↓reduceIte, eq_self, q0, q3, q4, q5, q6, q7, q8, q10, q16, t176, @ex_entry, hen4, b1, e0, hu]))
   refine ⟨(S1 ++ S2).length, by simp, V ++ [(ky, vy)], S1 ++ S2, Z', rfl, rfl, perm_step pm, fun t ht => by (simp only [B, xB, F, reduceLT, reduceLeDiff, reduceEqDiff, reduceAdd, reduceMul, reduceSub, ↓reduceIte, eq_self]; (repeat rw [if_neg (by omega)]); exact tt t ht), by simp only [B, xB, F, reduceLT, reduceLeDiff, reduceEqDiff, reduceAdd, reduceMul, reduceSub, ↓reduceIte, eq_self, t176], ?_, m5, by rw [qv]; exact dz, ⟨⟨by omega, fun c hc hS => ?_⟩, by rw [gg5, gg4, o1h.2]⟩⟩
   ·rw [mS_app, mS_app, e1, e2]; exact rg4.keep o5 (by simp; omega) (by simp; exact hro)
   ·simp only [List.mem_cons, List.mem_nil_iff, or_false, not_or] at hS
    rw [o5.2 c (by omega) (by simp; exact hS.1), o4.2 c (by omega) (by simp; exact hS.2)]
    exact o1h.1.2 c hc (by simp; exact hS)
  ·have b1 : decide (vy = []) = false := decide_eq_false qv
   obtain ⟨h5, hu, m5, x5, o5, gg5⟩ := update_k (P := P) u31a k9 mz4 ky (.str vy)
   have hu : updateA P 25 (.map lm) (.str ky) (.str vy) h4 = some h5 := hu
   obtain ⟨Z', ez, dz⟩ := dn.put hkV qv
   rw [ez] at m5
   repeat' (first | ((with_reducible refine st1 ?_); (conv => whnf); (with_reducible refine ⟨?_⟩)) | ((with_reducible refine retW_intro rfl ?_); (conv => arg 2; whnf)) | ((with_reducible first | refine iB ?_ ?_ | refine gWt ?_ ?_ | refine gWf ?_ ?_) <;> intro hb <;> (try simp only [hb])) | (simp only [B, xB, F, reduceLT, reduceLeDiff, reduceEqDiff, reduceAdd, reduceMul, reduceSub, ↓reduceIte, eq_self, q0, q3, q4, q5, q6, q7, q8, q10, q16, t176, @ex_entry, hen4, b1, e0, @ex_mapUpdate, hu, oH_some]))
   refine ⟨(S1 ++ S2).length, by simp, V ++ [(ky, vy)], S1 ++ S2, Z', rfl, rfl, perm_step pm, fun t ht => by (simp only [B, xB, F, reduceLT, reduceLeDiff, reduceEqDiff, reduceAdd, reduceMul, reduceSub, ↓reduceIte, eq_self]; (repeat rw [if_neg (by omega)]); exact tt t ht), by simp only [B, xB, F, reduceLT, reduceLeDiff, reduceEqDiff, reduceAdd, reduceMul, reduceSub, ↓reduceIte, eq_self, t176], ?_, m5, dz, ⟨⟨by omega, fun c hc hS => ?_⟩, by rw [gg5, gg4, o1h.2]⟩⟩
   ·rw [mS_app, mS_app, e1, e2]; exact rg4.keep o5 (by simp; omega) (by simp; exact hro)
   ·simp only [List.mem_cons, List.mem_nil_iff, or_false, not_or] at hS
    rw [o5.2 c (by omega) (by simp; exact hS.1), o4.2 c (by omega) (by simp; exact hS.2)]
    exact o1h.1.2 c hc (by simp; exact hS)
end
end Go.Proofs.YtllmfnedkhiomaaGreatDoor.S

namespace Go.Proofs.YtllmfnedkhiomaaGreatDoor.S
open Go Go.AX
noncomputable section
set_option maxRecDepth 100000
theorem ord3_1 : drawO P (regionOf (codeI (bodyC Tryz.f3) [0, 1, 1, 1, 1, 1, 1, 0, 0, 1, 0, 0, 1, 0, 1, 1, 1, 1, 1])) [0, 1, 2, 3, 4, 9, 5, 6, 7, 8, 10, 11, 12, 13, 14] = true:= by kernel_rfl
theorem doneAgain (h : H) (b r : Nat) (Bk : List (Nat × Lst)) (k : BkAt h b r Bk) (c num : Nat) (s : List Nat) (hB : ∀ n s, getB c Bk = some (n, s) → n < 1000000) (x : List Nat) (hs : seenE Bk c num = (x, true, 0)) :
  PushC P (.enter 8 [.ptr b 0, .int .u64 (.ofNat c), .int .u64 (.ofNat num), .str s] h) (SaysG h (.tuple [.nilmap, .int .i64 (.ofNat 17)])) := by
 refine pushC_of_codeW (fn := Tryz.f8) (c := bodyC Tryz.f8) Tryz.func8 rfl ?_
 show codeW P 8 76 none _ _ _ _ _
 refine codeW_root ?_
 repeat' (first | ((with_reducible refine st1 ?_); (conv => whnf); (with_reducible refine ⟨?_⟩)) | ((with_reducible refine retW_intro rfl ?_); (conv => arg 2; whnf)) | ((with_reducible first | refine iB ?_ ?_ | refine gWt ?_ ?_ | refine gWf ?_ ?_) <;> intro hb <;> (try simp only [hb])) | (simp only [B, xB, F, reduceLT, reduceLeDiff, reduceEqDiff, reduceAdd, reduceMul, reduceSub, ↓reduceIte, eq_self]))
 refine ((seenC h b r Bk k c num hB).call P).mono P ?_
 rintro v h1 ⟨rfl, o1⟩
 rw [hs]
 unfold seenV
 repeat' (first | ((with_reducible refine st1 ?_); (conv => whnf); (with_reducible refine ⟨?_⟩)) | ((with_reducible refine retW_intro rfl ?_); (conv => arg 2; whnf)) | ((with_reducible first | refine iB ?_ ?_ | refine gWt ?_ ?_ | refine gWf ?_ ?_) <;> intro hb <;> (try simp only [hb])) | (simp only [B, xB, F, reduceLT, reduceLeDiff, reduceEqDiff, reduceAdd, reduceMul, reduceSub, ↓reduceIte, eq_self]))
 exact ⟨rfl, o1⟩
theorem St.bnd {Bk : List Rw} {X : List Kp} {ls : List Nat} {rs : List (List Nat)} {i : Nat} (st : St Bk X ls rs i) (c : Nat) (n : Nat) (s : List Nat) (h : getB c Bk = some (n, s)) : n ≤ i ∧ s.length ≤ 800 := by
 rw [getB_some st.nd] at h
 have := st.ok _ h
 exact ⟨this.2.1, this.2.2.1⟩
theorem St.seen {Bk : List Rw} {X : List Kp} {ls : List Nat} {rs : List (List Nat)} {i : Nat} (st : St Bk X ls rs i) {k l num : Nat} {r : List Nat} (hk : k < 8) (hl : ls[k]? = some l) (hr : rs[k]? = some r) :
  (num = 0 ∨ l + 1 < num → seenE Bk (k + 1) num = ([], false, 2)) ∧ (0 < num → num < l → seenE Bk (k + 1) num = ([], false, 13)) ∧ (0 < num → num = l → seenE Bk (k + 1) num = (r, true, 0)) ∧ (num = l + 1 → seenE Bk (k + 1) num = ([], false, 0)) := by
 have hg := st.gt k l r hl hr
 have h8 := len8 st.nd st.cl
 unfold seenE
 rw [hg]
 by_cases q : l = 0
 ·rw [if_pos q]
  refine ⟨fun h => ?_, fun h1 h2 => by omega, fun h1 h2 => by omega, fun h => ?_⟩
  ·by_cases q2 : num = 0
   ·rw [if_pos (.inr (.inr q2))]
   ·rw [if_neg (by omega)]
    simp only
    rw [if_pos (by omega)]
  ·rw [if_neg (by omega)]
   simp only
   rw [if_neg (by omega), if_neg (by omega)]
 ·rw [if_neg q]
  refine ⟨fun h => ?_, fun h1 h2 => ?_, fun h1 h2 => ?_, fun h => ?_⟩
  ·by_cases q2 : num = 0
   ·rw [if_pos (.inr (.inr q2))]
   ·rw [if_neg (by omega)]
    simp only
    rw [if_neg (by omega), if_neg (by omega), if_pos (by omega)]
  ·rw [if_neg (by omega)]
   simp only
   rw [if_neg (by omega), if_pos (by omega)]
  ·rw [if_neg (by omega)]
   simp only
   rw [if_pos (by omega)]
  ·rw [if_neg (by omega)]
   simp only
   rw [if_neg (by omega), if_neg (by omega), if_neg (by omega)]
theorem brem (h : H) (t : TypeId) (x y : Operand) (k : IntKind) (a b : Nat) (hb : 0 < b) : binR P h .rem t x y (.int k (.ofNat a)) (.int k (.ofNat b)) = .val (.int k (.ofNat (a % b))) h := by
 have := b_rem (P := P) (h := h) (t := t) (x := x) (y := y) k (.ofNat a) (.ofNat b) (by
  have : (Int.ofNat b == 0) = decide (b = 0) := eq_nat b 0
  rw [this]; exact decide_eq_false (by omega))
 rw [tmod_nat] at this; exact this
theorem bquo8 (h : H) (t : TypeId) (x y : Operand) (a : Nat) (ha : a < 256) : binR P h .quo t x y (.int .u8 (.ofNat a)) (.int .u8 (.ofNat 8)) = .val (.int .u8 (.ofNat (a / 8))) h := by
 have := b_quo (P := P) (h := h) (t := t) (x := x) (y := y) .u8 (.ofNat a) (.ofNat 8) rfl
 rw [tdiv_nat, u8_mod, Nat.mod_eq_of_lt (by omega)] at this; exact this
structure OnI (h0 : H) (vl : AV) (n b5 b6 lm : Nat) (m : Nat) (ds : List Nat) (tm : T AV) (h : H) (i bb rb : Nat) (Bk : List Rw) (X : List Kp) (ls : List Nat) (rs : List (List Nat)) : Prop where
 ds : ds = []
 nn : m = min n 200 - i
 ii : i ≤ min n 200
 t0 : tm.get 0 = some vl
 t3 : tm.get 3 = some (.ptr bb 0)
 t4 : tm.get 4 = some (.map lm)
 t5 : tm.get 5 = some (.ptr b5 0)
 t6 : tm.get 6 = some (.ptr b6 0)
 t7 : tm.get 7 = some (.int .i64 (.ofNat i))
 on : OnS h0 h b5 b6 lm bb rb Bk X ls rs i
def cs2 (p : Nat × Nat) : List AV := [.int .u8 (.ofNat p.1), .int .u8 (.ofNat p.2)]
theorem u22s : P.underlying 22 = some (.slice 29):= by kernel_rfl
theorem mk25 (tm : T AV) (h : H) : execA P tm h (.makeMap 25 none) = .val (.map h.nx) (h.alloc (.map [] 0)):= by simp only [execA, u31a, evalO]
theorem flat2 : ∀ {l : List (Nat × Nat)} {i : Nat} {p : Nat × Nat}, l[i]? = some p → (l.flatMap cs2)[i * 2]? = some (.int .u8 (.ofNat p.1)) ∧ (l.flatMap cs2)[i * 2 + 1]? = some (.int .u8 (.ofNat p.2))
 | [], i, p, h => by simp at h
 | q :: l, 0, p, h => by
  simp at h; subst h
  exact ⟨rfl, rfl⟩
 | q :: l, i + 1, p, h => by
  have ih := flat2 (l := l) (i := i) (p := p) (by simpa using h)
  rw [List.flatMap_cons]
  have e1 : (i + 1) * 2 = i * 2 + 1 + 1:= by omega
  show (AV.int .u8 (.ofNat q.1) :: AV.int .u8 (.ofNat q.2) :: l.flatMap cs2)[(i + 1) * 2]? = _ ∧ (AV.int .u8 (.ofNat q.1) :: AV.int .u8 (.ofNat q.2) :: l.flatMap cs2)[(i + 1) * 2 + 1]? = _
  rw [e1]
  simp only [List.getElem?_cons_succ]
  exact ih
def textZ (i b : Nat) : List Nat := List.replicate (b * 3) 0 ++ [i]
theorem textZ_ok {i b : Nat} (hi : i < 200) (hb : b < 256) : (textZ i b).length ≤ 800 ∧ isBy (textZ i b) := by
 unfold textZ
 refine ⟨by simp; omega, fun c hc => ?_⟩
 rcases List.mem_append.1 hc with hc | hc
 ·have := List.eq_of_mem_replicate hc; omega
 ·rw [List.mem_singleton] at hc; omega
theorem mkZ (h : H) (n : Nat) (hn : n ≤ 100000) : makeSliceA P 37 (.int .i64 (.ofNat n)) (.int .i64 (.ofNat n)) h = .val (.slice h.nx 0 n (.exact n)) (h.newCells 5 (List.replicate n (.int .u8 (.ofNat 0)))) := by
 have z5 : zeroA P 5 = some (.int .u8 (.ofNat 0)):= by kernel_rfl
 have hr : ∀ k, repl [AV.int .u8 (.ofNat 0)] k = List.replicate k (.int .u8 (.ofNat 0)) := by
  intro k
  induction k with
  | zero => rfl
  | succ k ih => show AV.int .u8 (.ofNat 0) :: repl [AV.int .u8 (.ofNat 0)] k = _; rw [ih]; rfl
 have h1 : (match P.info? 5 with | some info => okT P 5 && small info.bytes && Nat.beq 1 info.size && Nat.ble 1 info.size | none => false) = true:= by kernel_rfl
 split at h1
 ·rename_i info hinfo
  have hsm : small n = true := Nat.ble_eq_true_of_le (by omega)
  have hb : Nat.ble n n = true := Nat.ble_self_eq_true _
  unfold makeSliceA
  simp only [u75a, hinfo, z5, hb, hsm, Bool.and_self, AV.cells, List.length_cons, List.length_nil, Nat.zero_add, h1, hr]
 ·cases h1
def oaF (x : Option AV) (f : AV → Option (TypeId × List AV × Nat)) : Option (TypeId × List AV × Nat) :=
 match x with
 | some v => f v
 | none => none
theorem oaF_some (v : AV) (f : AV → Option (TypeId × List AV × Nat)) : oaF (some v) f = f v := id rfl
theorem fresh2_mk (tm : T AV) (t : TypeId) (a b : Operand) : fresh2 P tm (.makeSlice t a b) = oaF (evalA tm a) fun x => oaF (evalA tm b) fun y => rowM P t x y := by
 have e : fresh2 P tm (.makeSlice t a b) = (match evalA tm a, evalA tm b with | some x, some y => rowM P t x y | _, _ => none) := rfl
 rw [e]
 unfold oaF
 cases evalA tm a with
 | none => cases evalA tm b <;> rfl
 | some x => cases evalA tm b <;> rfl
theorem rowMZ (n : Nat) (hn : n ≤ 100000) : rowM P 37 (.int .i64 (.ofNat n)) (.int .i64 (.ofNat n)) = some (5, List.replicate n (.int .u8 (.ofNat 0)), n) := by
 have z5 : zeroA P 5 = some (.int .u8 (.ofNat 0)):= by kernel_rfl
 have hr : ∀ k, repl [AV.int .u8 (.ofNat 0)] k = List.replicate k (.int .u8 (.ofNat 0)) := by
  intro k
  induction k with
  | zero => rfl
  | succ k ih => show AV.int .u8 (.ofNat 0) :: repl [AV.int .u8 (.ofNat 0)] k = _; rw [ih]; rfl
 have h1 : (match P.info? 5 with | some info => okT P 5 && small info.bytes && Nat.beq 1 info.size && Nat.ble 1 info.size | none => false) = true:= by kernel_rfl
 split at h1
 ·rename_i info hinfo
  have hsm : small n = true := Nat.ble_eq_true_of_le (by omega)
  have hb : Nat.beq n n = true := Nat.beq_refl n
  unfold rowM
  simp only [u75a, hinfo, z5, hb, hsm, Bool.and_self, AV.cells, List.length_cons, List.length_nil, Nat.zero_add, h1, hr]
 ·cases h1
theorem done_out {Bk : List Rw} {X : List Kp} {ls : List Nat} {rs : List (List Nat)} {i : Nat} (st : St Bk X ls rs i) (hi : i < 1000) (c n : Nat) (s : List Nat) (hc : c < 281474976710656) (hn : n < M64) (hs : s.length ≤ 4000) :
  outB c (textP n s) (match getB c Bk with | none => [] | some (n, r0) => outA c (cntP (textP n r0))) (cntP (textP n s)) = mS (dlt c n s (oldN c Bk)) ∧ ((dlt c n s (oldN c Bk)).map (·.1)).Nodup := by
 have c60 := cnt_60 (y := (c, n, s)) ⟨hc, hn, hs⟩
 simp only at c60
 have hm : (match getB c Bk with | none => [] | some (n, r0) => outA c (cntP (textP n r0))) = mS (restP c 0 (oldN c Bk)) ∧ oldN c Bk ≤ 60 := by
  unfold oldN
  cases hg : getB c Bk with
  | none => exact ⟨rfl, by simp⟩
  | some y =>
   obtain ⟨a, t⟩ := y
   have h2 := hg
   rw [getB_some st.nd] at h2
   have hk := cnt_60 (okRw_of (i := i) (by omega) (st.cl _ h2) (st.ok _ h2))
   simp only at hk
   exact ⟨outA_eq c _ (by omega), hk⟩
 refine ⟨by rw [hm.1, outB_eq c _ _ (by omega) _ (by omega)]; rfl, ?_⟩
 have hk := outR_keys c n (oldN c Bk) s (by omega) (by omega)
 have hnd := nodup_of_lt hk
 unfold dlt
 rw [List.map_append] at hnd ⊢
 exact (List.perm_append_comm.nodup_iff).1 hnd
theorem cvZ (h h' : H) (n : Nat) (hg : h'.t.get h.nx = (h.newCells 5 (List.replicate n (.int .u8 (.ofNat 0)))).t.get h.nx) : convR P 37 9 (.slice h.nx 0 n (.exact n)) h' = .val (.str (List.replicate n 0)) h' := by
 have u5a : P.underlying 5 = some (.int .u8):= by kernel_rfl
 by_cases q : n = 0
 ·subst q
  have hr : h'.row h.nx 0 0 = some [] := by
   unfold H.row
   rw [hg]
   unfold H.newCells H.alloc
   simp only [T.get_set, if_true, loadRow_eq]; rfl
  unfold convR
  simp only [u75a, u9a]
  unfold convertA
  simp only [u75a, u9a, u5a, hr]
  rfl
 ·refine conv_bytes (by simp) (by simpa using q) (fun j hj => ?_) (fun c hc => by have := List.eq_of_mem_replicate hc; omega)
  rw [cellAt_of_get hg, cellAt_new, if_pos rfl, Nat.zero_add, List.getElem?_replicate, List.getElem?_replicate]
  split <;> rfl
set_option maxHeartbeats 8000000 in
theorem onceW (h0 : H) (gl : Gl h0) (vl : AV) (l : List (Nat × Nat)) (sl : SliceAt h0 vl l.length (l.flatMap cs2)) (hl : ∀ p, p ∈ l → p.1 < 256 ∧ p.2 < 256) :
  codeW P 3 229 none (bodyC Tryz.f3) [] (T.fill .e 0 [vl]) h0 (retK P Tryz.f3 fun v _ => v = .bool true) := by
 have gx := gl.x
 have hlen := sl.len (P := P) u22s
 refine codeW_root ?_
 repeat' (first | ((with_reducible refine st1 ?_); (conv => whnf); (with_reducible refine ⟨?_⟩)) | ((with_reducible refine retW_intro rfl ?_); (conv => arg 2; whnf)) | ((with_reducible first | refine iB ?_ ?_ | refine gWt ?_ ?_ | refine gWf ?_ ?_) <;> intro hb <;> (try simp only [hb])) | (simp only [B, xB, F, reduceLT, reduceLeDiff, reduceEqDiff, reduceAdd, reduceMul, reduceSub, ↓reduceIte, eq_self]))
 refine ((newC h0).call P).mono P ?_
 rintro _ h1 ⟨rfl, o1, bk1⟩
 have lt1 := bk1.lt
 obtain ⟨h2, h2e⟩ : ∃ h2, h2 = h1.alloc (.map [] 0) := ⟨_, rfl⟩
 have o2 : Og h1 h2 []:= by rw [h2e]; exact (Og.refl _ _).alloc _
 have x2 : h2.nx = h1.nx + 1:= by rw [h2e]; rfl
 have m2 : MapK encS h2 h1.nx (mS []):= by rw [h2e]; exact newMap h1 encS
 obtain ⟨h3, h3e⟩ : ∃ h3, h3 = h2.newCells 27 (List.replicate 8 (.int .u64 (.ofNat 0))) := ⟨_, rfl⟩
 obtain ⟨h4, h4e⟩ : ∃ h4, h4 = h3.newCells 28 (List.replicate 8 (.str [])) := ⟨_, rfl⟩
 have o3 : Og h2 h3 []:= by rw [h3e]; exact (Og.refl _ _).new _ _
 have o4 : Og h3 h4 []:= by rw [h4e]; exact (Og.refl _ _).new _ _
 have x3 : h3.nx = h2.nx + 1:= by rw [h3e]; rfl
 have x4 : h4.nx = h3.nx + 1:= by rw [h4e]; rfl
 have x1 := o1.1.1
 have o24 := o2.t (o3.t o4)
 have on0 : OnS h0 h4 h2.nx (h2.nx + 1) h1.nx (h0.nx + 1) h0.nx [] [] (List.replicate 8 0) (List.replicate 8 []) 0 := by
  refine ⟨o1.t o24, bk1.keep o24 (by simp) (by simp), m2.keep (o3.t o4).1 (by simp), ⟨List.nodup_nil, fun y hy => (by cases hy), fun y hy => (by cases hy), by simp, by simp, fun k n s e1 e2 => ?_, List.Perm.refl _, List.nodup_nil⟩, fun k v e => ?_, fun k v e => ?_, ?_, ?_, fun k v e => ?_, by omega, by omega, by omega⟩
  ·rw [List.getElem?_replicate] at e1
   split at e1
   ·cases e1; rw [if_pos rfl]; rfl
   ·cases e1
  ·rw [List.getElem?_replicate] at e
   split at e
   ·rename_i hk
    cases e
    refine kc ?_ o4 (by omega) (by simp)
    rw [h3e, cellAt_new, if_pos rfl, List.getElem?_replicate, if_pos hk]
   ·cases e
  ·rw [List.getElem?_replicate] at e
   split at e
   ·rename_i hk
    cases e
    rw [h4e, cellAt_new, if_pos x3.symm, List.getElem?_replicate, if_pos hk]
   ·cases e
  ·exact kw (by rw [h3e, wrAt_new, if_pos rfl]) o4 (by omega) (by simp)
  ·rw [h4e, wrAt_new, if_pos x3.symm]
  ·rw [List.getElem?_replicate] at e
   split at e
   ·cases e; omega
   ·cases e
 have h3l : h3 = h2.newCells 27 [.int .u64 (.ofNat 0), .int .u64 (.ofNat 0), .int .u64 (.ofNat 0), .int .u64 (.ofNat 0), .int .u64 (.ofNat 0), .int .u64 (.ofNat 0), .int .u64 (.ofNat 0), .int .u64 (.ofNat 0)] := h3e
 have h4l : h4 = h3.newCells 28 [.str [], .str [], .str [], .str [], .str [], .str [], .str [], .str []] := h4e
 repeat' (first | ((with_reducible refine st1 ?_); (conv => whnf); (with_reducible refine ⟨?_⟩)) | ((with_reducible refine retW_intro rfl ?_); (conv => arg 2; whnf)) | ((with_reducible first | refine iB ?_ ?_ | refine gWt ?_ ?_ | refine gWf ?_ ?_) <;> intro hb <;> (try simp only [hb])) | (simp only [B, xB, F, reduceLT, reduceLeDiff, reduceEqDiff, reduceAdd, reduceMul, reduceSub, ↓reduceIte, eq_self, mk25, ← h2e, ← h3l, ← h4l, x3]))
 refine st_loop (fun m ds tm h => ∃ i bb rb Bk X ls rs, OnI h0 vl l.length h2.nx (h2.nx + 1) h1.nx m ds tm h i bb rb Bk X ls rs) (min l.length 200) rfl ⟨0, _, _, _, _, _, _, rfl, rfl, Nat.zero_le _, by simp only [B, xB, F, reduceLT, reduceLeDiff, reduceEqDiff, reduceAdd, reduceMul, reduceSub, ↓reduceIte, eq_self], by simp only [B, xB, F, reduceLT, reduceLeDiff, reduceEqDiff, reduceAdd, reduceMul, reduceSub, ↓reduceIte, eq_self], by simp only [B, xB, F, reduceLT, reduceLeDiff, reduceEqDiff, reduceAdd, reduceMul, reduceSub, ↓reduceIte, eq_self], by simp only [B, xB, F, reduceLT, reduceLeDiff, reduceEqDiff, reduceAdd, reduceMul, reduceSub, ↓reduceIte, eq_self], by simp only [B, xB, F, reduceLT, reduceLeDiff, reduceEqDiff, reduceAdd, reduceMul, reduceSub, ↓reduceIte, eq_self], by simp only [B, xB, F, reduceLT, reduceLeDiff, reduceEqDiff, reduceAdd, reduceMul, reduceSub, ↓reduceIte, eq_self], on0⟩ (fun m ds tm h hI => ?_)
 clear on0
 obtain ⟨i, bb, rb, Bk, X, ls, rs, rfl, rfl, ii, t0, t3, t4, t5, t6, t7, on⟩ := hI
 have ont := on
 by_cases hi1 : i < l.length
 ·have d1 : decide (i < l.length) = true := decide_eq_true hi1
  by_cases hi2 : i < 200
  ·have d2 : decide (i < 200) = true := decide_eq_true hi2
   obtain ⟨⟨a, b⟩, hp⟩ : ∃ p, l[i]? = some p := ⟨_, List.getElem?_eq_getElem hi1⟩
   obtain ⟨ha, hb⟩ := hl _ (List.mem_of_getElem? hp)
   simp only at ha hb
   obtain ⟨lb, lo, lc, rfl, hlb, hlc⟩ := sl.place (by omega)
   have lt1 : (i < l.length) = True:= by simp [hi1]
   have fl := flat2 hp
   simp only at fl
   have p0 := hlc (i * 2) (by have := (List.getElem?_eq_some_iff.1 fl.1).1; exact this)
   have p1 := hlc (i * 2 + 1) (by have := (List.getElem?_eq_some_iff.1 fl.2).1; exact this)
   rw [fl.1] at p0
   rw [fl.2] at p1
   have c0 := kc p0 on.oo hlb (by simp)
   have c1 := kc p1 on.oo hlb (by simp)
   have j0 := ia29 lb (lo + i * 2) .i64 0 (by omega)
   have j1 := ia29 lb (lo + i * 2) .i64 1 (by omega)
   rw [Nat.add_zero] at j0
   rw [Nat.add_assoc] at j1
   obtain ⟨k, hk⟩ : ∃ k, k = a % 8 := ⟨_, rfl⟩
   have hk8 : k < 8:= by omega
   have b1 : ∀ h t x y, binR P h .rem t x y (.int .u8 (.ofNat a)) (.int .u8 (.ofNat 8)) = .val (.int .u8 (.ofNat k)) h := fun h t x y => by rw [hk]; exact brem h t x y .u8 a 8 (by omega)
   have b2 := fun h t x y => bquo8 h t x y a ha
   have b3 : ∀ h t x y, binR P h .rem t x y (.int .u8 (.ofNat (a / 8))) (.int .u8 (.ofNat 8)) = .val (.int .u8 (.ofNat (a / 8 % 8))) h := fun h t x y => brem h t x y .u8 (a / 8) 8 (by omega)
   have wk : wrapF .i64 (Int.ofNat k) = Int.ofNat k := by
    have := i64_add (a := k) (b := 0) (by omega)
    simpa using this
   have wi : wrapF .i64 (Int.ofNat i + Int.ofNat 1) = Int.ofNat (i + 1) := i64_add (by omega)
   have ok := on.st.okX (by omega)
   have xh := on.oo.1.1
   by_cases q7 : a / 8 % 8 = 7
   ·have d7 : decide (a / 8 % 8 = 7) = true := decide_eq_true q7
    repeat' (first | ((with_reducible refine st1 ?_); (conv => whnf); (with_reducible refine ⟨?_⟩)) | ((with_reducible refine retW_intro rfl ?_); (conv => arg 2; whnf)) | ((with_reducible first | refine iB ?_ ?_ | refine gWt ?_ ?_ | refine gWf ?_ ?_) <;> intro hb <;> (try simp only [hb])) | (simp only [B, xB, F, reduceLT, reduceLeDiff, reduceEqDiff, reduceAdd, reduceMul, reduceSub, ↓reduceIte, eq_self, t0, t3, t4, t5, t6, t7, hlen, d1, d2, lt1, c0, j0, b1, b2, b3, wk, d7]))
    refine ((openC h (gl.keep on.oo (by simp)) h1.nx X ok on.mx).call P).mono P ?_
    rintro v h5 (⟨bb2, rb2, Bk2, rfl, bk5, val5, pm5, o5, ge5⟩ | ⟨rfl, o5, no⟩)
    ·have ne := on.ne
     have lt := on.lt
     have ltm := on.mx.lt
     have lbk := on.bk.lt
     have on5 := on.keep o5
     have on6 : OnS h0 h5 h2.nx (h2.nx + 1) h1.nx bb2 rb2 Bk2 X ls rs (i + 1) :=
      ⟨on5.oo, bk5, on5.mx, (on5.st.open (by omega) val5 pm5).mono (by omega), on5.c5, on5.c6, on5.w5, on5.w6, fun k v e => by have := on5.lv k v e; omega, by have := on5.ge; omega, by omega, on5.lt⟩
     repeat' (first | ((with_reducible refine st1 ?_); (conv => whnf); (with_reducible refine ⟨?_⟩)) | ((with_reducible refine retW_intro rfl ?_); (conv => arg 2; whnf)) | ((with_reducible first | refine iB ?_ ?_ | refine gWt ?_ ?_ | refine gWf ?_ ?_) <;> intro hb <;> (try simp only [hb])) | (simp only [B, xB, F, reduceLT, reduceLeDiff, reduceEqDiff, reduceAdd, reduceMul, reduceSub, ↓reduceIte, eq_self, t0, t3, t4, t5, t6, t7, wi]))
     exact ⟨min l.length 200 - (i + 1), by omega, i + 1, bb2, rb2, Bk2, X, ls, rs, rfl, rfl, by omega, by simp only [B, xB, F, reduceLT, reduceLeDiff, reduceEqDiff, reduceAdd, reduceMul, reduceSub, ↓reduceIte, eq_self, t0], by simp only [B, xB, F, reduceLT, reduceLeDiff, reduceEqDiff, reduceAdd, reduceMul, reduceSub, ↓reduceIte, eq_self], by simp only [B, xB, F, reduceLT, reduceLeDiff, reduceEqDiff, reduceAdd, reduceMul, reduceSub, ↓reduceIte, eq_self, t4], by simp only [B, xB, F, reduceLT, reduceLeDiff, reduceEqDiff, reduceAdd, reduceMul, reduceSub, ↓reduceIte, eq_self, t5], by simp only [B, xB, F, reduceLT, reduceLeDiff, reduceEqDiff, reduceAdd, reduceMul, reduceSub, ↓reduceIte, eq_self, t6], by simp only [B, xB, F, reduceLT, reduceLeDiff, reduceEqDiff, reduceAdd, reduceMul, reduceSub, ↓reduceIte, eq_self], on6⟩
    ·exact absurd ⟨Bk, on.st.val (by omega), on.st.pm⟩ no
   ·have d7 : decide (a / 8 % 8 = 7) = false := decide_eq_false q7
    obtain ⟨lv, hlv⟩ : ∃ v, ls[k]? = some v := ⟨_, List.getElem?_eq_getElem (by rw [on.st.ll]; omega)⟩
    obtain ⟨rv, hrv⟩ : ∃ v, rs[k]? = some v := ⟨_, List.getElem?_eq_getElem (by rw [on.st.rl]; omega)⟩
    have y5 := on.c5 k lv hlv
    have y6 := on.c6 k rv hrv
    have hli := on.lv k lv hlv
    have a5 := ia27 h2.nx .i64 k hk8
    have a6 := ia28 (h2.nx + 1) .i64 k hk8
    obtain ⟨mn, hmn⟩ : ∃ mn, mn = min (b % 4) (lv + 2) := ⟨_, rfl⟩
    obtain ⟨num, hnum⟩ : ∃ num, num = lv + 2 - mn := ⟨_, rfl⟩
    have b4 : ∀ h t x y, binR P h .rem t x y (.int .u8 (.ofNat b)) (.int .u8 (.ofNat 4)) = .val (.int .u8 (.ofNat (b % 4))) h := fun h t x y => brem h t x y .u8 b 4 (by omega)
    have w2 : wrapF .u64 (Int.ofNat lv + Int.ofNat 2) = Int.ofNat (lv + 2) := u64_add (by omega)
    have w4 : wrapF .u64 (Int.ofNat (b % 4)) = Int.ofNat (b % 4) := u64_nat (by omega)
    have mnE : (if Int.ofNat (lv + 2) < Int.ofNat (b % 4) then Int.ofNat (lv + 2) else Int.ofNat (b % 4)) = Int.ofNat mn := by
     rw [hmn]
     have : ∀ x y : Nat, (if (x : Int) < (y : Int) then (x : Int) else (y : Int)) = ((min y x : Nat) : Int) := fun x y => by split <;> omega
     exact this _ _
    have wn : wrapF .u64 (Int.ofNat (lv + 2) - Int.ofNat mn) = Int.ofNat num:= by rw [hnum]; exact u64_sub (by omega) (by omega)
    have wk1 : wrapF .i64 (Int.ofNat k + Int.ofNat 1) = Int.ofNat (k + 1) := i64_add (by omega)
    have wk2 : wrapF .u64 (Int.ofNat (k + 1)) = Int.ofNat (k + 1) := u64_nat (by omega)
    repeat' (first | ((with_reducible refine st1 ?_); (conv => whnf); (with_reducible refine ⟨?_⟩)) | ((with_reducible refine st_dp ord3_0 ?_ rfl rfl ?_); exact rfl; (conv => arg 4; whnf); (conv => arg 3; whnf)) | ((with_reducible refine st_dp ord3_1 ?_ rfl rfl ?_); exact rfl; (conv => arg 4; whnf); (conv => arg 3; whnf)) | ((with_reducible refine retW_intro rfl ?_); (conv => arg 2; whnf)) | ((with_reducible first | refine iB ?_ ?_ | refine gWt ?_ ?_ | refine gWf ?_ ?_ | refine gXt ?_ ?_ | refine gXf ?_ ?_) <;> intro hb <;> (try simp only [hb])) | ((with_reducible show drawP _ _ _ _ _ _ _ _ _); first | ((with_reducible apply kP_rd); exact rfl; exact rfl) | ((with_reducible apply kP_rg); exact rfl; exact rfl; exact rfl) | ((with_reducible apply kP_cv); exact rfl; exact rfl; kernel_rfl) | ((with_reducible apply kP_al); exact rfl; exact rfl; exact rfl) | ((with_reducible apply kP_fl); exact rfl; exact rfl; exact rfl) | ((with_reducible apply kP_ex); exact rfl; exact rfl; kernel_rfl; exact rfl) | ((with_reducible apply kP_eg); exact rfl; exact rfl; kernel_rfl; exact rfl) | ((with_reducible refine kP_nl ?_ ?_))) | ((with_reducible show eOk _ _ _ _ _ _); first | (exact eok_nil) | (refine ke_rd ?_ ?_ ?_; exact rfl) | (apply ke_rg; exact rfl; exact rfl) | (refine ke_cv ?_ ?_ ?_ ?_; exact rfl; kernel_rfl) | (apply ke_fl; exact rfl) | (apply ke_al; exact rfl; exact rfl)) | ((with_reducible refine freshIs_new ?_); kernel_rfl) | (simp only [B, xB, F, reduceLT, reduceLeDiff, reduceEqDiff, reduceAdd, reduceMul, reduceSub, ↓reduceIte, eq_self, t0, t3, t4, t5, t6, t7, hlen, d1, d2, lt1, c0, c1, j0, j1, b1, b2, b3, b4, wk, d7, a5, y5, w2, w4, mnE, wn, wk1, wk2]))
    refine ((seenC h bb rb Bk on.bk (k + 1) num (fun n s e => by have := (on.st.bnd _ _ _ e).1; omega)).call P).mono P ?_
    rintro v h5 ⟨rfl, o5⟩
    have on5 := on.keep o5
    have y5 := on5.c5 k lv hlv
    have y6 := on5.c6 k rv hrv
    obtain ⟨sA, sB, sC, sD⟩ := on.st.seen (num := num) hk8 hlv hrv
    have w1 : wrapF .u64 (Int.ofNat lv + Int.ofNat 1) = Int.ofNat (lv + 1) := u64_add (by omega)
    have e0 : bytesOf { data := #[] } = [] := rfl
    have fin : ∀ (tm2 : T AV) (h6 : H) (bb2 rb2 : Nat) (Bk2 : List Rw) (X2 : List Kp) (ls2 : List Nat) (rs2 : List (List Nat)), OnS h0 h6 h2.nx (h2.nx + 1) h1.nx bb2 rb2 Bk2 X2 ls2 rs2 (i + 1) → tm2.get 0 = some (.slice lb lo l.length lc) → tm2.get 3 = some (.ptr bb2 0) → tm2.get 4 = some (.map h1.nx) → tm2.get 5 = some (.ptr h2.nx 0) → tm2.get 6 = some (.ptr (h2.nx + 1) 0) → tm2.get 7 = some (.int .i64 (.ofNat (i + 1))) →
      ∃ m', m' < min l.length 200 - i ∧ ∃ i bb rb Bk X ls rs, OnI h0 (.slice lb lo l.length lc) l.length h2.nx (h2.nx + 1) h1.nx m' [] tm2 h6 i bb rb Bk X ls rs :=
     fun tm2 h6 bb2 rb2 Bk2 X2 ls2 rs2 on6 q0 q3 q4 q5 q6 q7 => ⟨min l.length 200 - (i + 1), by omega, i + 1, bb2, rb2, Bk2, X2, ls2, rs2, rfl, rfl, by omega, q0, q3, q4, q5, q6, q7, on6⟩
    have on6 : OnS h0 h5 h2.nx (h2.nx + 1) h1.nx bb rb Bk X ls rs (i + 1) := ⟨on5.oo, on5.bk, on5.mx, on5.st.mono (by omega), on5.c5, on5.c6, on5.w5, on5.w6, fun k v e => by have := on5.lv k v e; omega, on5.ge, on5.ne, on5.lt⟩
    unfold seenV
    by_cases qa : num = 0
    ·have da : decide (num = 0) = true := decide_eq_true qa
     rw [sA (.inl qa)]
     repeat' (first | ((with_reducible refine st1 ?_); (conv => whnf); (with_reducible refine ⟨?_⟩)) | ((with_reducible refine retW_intro rfl ?_); (conv => arg 2; whnf)) | ((with_reducible first | refine iB ?_ ?_ | refine gWt ?_ ?_ | refine gWf ?_ ?_) <;> intro hb <;> (try simp only [hb])) | (simp only [B, xB, F, reduceLT, reduceLeDiff, reduceEqDiff, reduceAdd, reduceMul, reduceSub, ↓reduceIte, eq_self, t0, t3, t4, t5, t6, t7, e0, da, wi]))
     exact fin _ _ _ _ _ _ _ _ on6 (by simp only [B, xB, F, reduceLT, reduceLeDiff, reduceEqDiff, reduceAdd, reduceMul, reduceSub, ↓reduceIte, eq_self, t0]) (by simp only [B, xB, F, reduceLT, reduceLeDiff, reduceEqDiff, reduceAdd, reduceMul, reduceSub, ↓reduceIte, eq_self, t3]) (by simp only [B, xB, F, reduceLT, reduceLeDiff, reduceEqDiff, reduceAdd, reduceMul, reduceSub, ↓reduceIte, eq_self, t4]) (by simp only [B, xB, F, reduceLT, reduceLeDiff, reduceEqDiff, reduceAdd, reduceMul, reduceSub, ↓reduceIte, eq_self, t5]) (by simp only [B, xB, F, reduceLT, reduceLeDiff, reduceEqDiff, reduceAdd, reduceMul, reduceSub, ↓reduceIte, eq_self, t6]) (by simp only [B, xB, F, reduceLT, reduceLeDiff, reduceEqDiff, reduceAdd, reduceMul, reduceSub, ↓reduceIte, eq_self])
    have da : decide (num = 0) = false := decide_eq_false qa
    by_cases qb : lv + 1 < num
    ·have db : decide (lv + 1 < num) = true := decide_eq_true qb
     rw [sA (.inr qb)]
     repeat' (first | ((with_reducible refine st1 ?_); (conv => whnf); (with_reducible refine ⟨?_⟩)) | ((with_reducible refine retW_intro rfl ?_); (conv => arg 2; whnf)) | ((with_reducible first | refine iB ?_ ?_ | refine gWt ?_ ?_ | refine gWf ?_ ?_) <;> intro hb <;> (try simp only [hb])) | (simp only [B, xB, F, reduceLT, reduceLeDiff, reduceEqDiff, reduceAdd, reduceMul, reduceSub, ↓reduceIte, eq_self, t0, t3, t4, t5, t6, t7, e0, da, a5, y5, w1, db, wi]))
     exact fin _ _ _ _ _ _ _ _ on6 (by simp only [B, xB, F, reduceLT, reduceLeDiff, reduceEqDiff, reduceAdd, reduceMul, reduceSub, ↓reduceIte, eq_self, t0]) (by simp only [B, xB, F, reduceLT, reduceLeDiff, reduceEqDiff, reduceAdd, reduceMul, reduceSub, ↓reduceIte, eq_self, t3]) (by simp only [B, xB, F, reduceLT, reduceLeDiff, reduceEqDiff, reduceAdd, reduceMul, reduceSub, ↓reduceIte, eq_self, t4]) (by simp only [B, xB, F, reduceLT, reduceLeDiff, reduceEqDiff, reduceAdd, reduceMul, reduceSub, ↓reduceIte, eq_self, t5]) (by simp only [B, xB, F, reduceLT, reduceLeDiff, reduceEqDiff, reduceAdd, reduceMul, reduceSub, ↓reduceIte, eq_self, t6]) (by simp only [B, xB, F, reduceLT, reduceLeDiff, reduceEqDiff, reduceAdd, reduceMul, reduceSub, ↓reduceIte, eq_self])
    have db : decide (lv + 1 < num) = false := decide_eq_false qb
    by_cases qc : num < lv
    ·have dc : decide (num < lv) = true := decide_eq_true qc
     rw [sB (by omega) qc]
     repeat' (first | ((with_reducible refine st1 ?_); (conv => whnf); (with_reducible refine ⟨?_⟩)) | ((with_reducible refine retW_intro rfl ?_); (conv => arg 2; whnf)) | ((with_reducible first | refine iB ?_ ?_ | refine gWt ?_ ?_ | refine gWf ?_ ?_) <;> intro hb <;> (try simp only [hb])) | (simp only [B, xB, F, reduceLT, reduceLeDiff, reduceEqDiff, reduceAdd, reduceMul, reduceSub, ↓reduceIte, eq_self, t0, t3, t4, t5, t6, t7, e0, da, a5, y5, w1, db, dc, wi]))
     exact fin _ _ _ _ _ _ _ _ on6 (by simp only [B, xB, F, reduceLT, reduceLeDiff, reduceEqDiff, reduceAdd, reduceMul, reduceSub, ↓reduceIte, eq_self, t0]) (by simp only [B, xB, F, reduceLT, reduceLeDiff, reduceEqDiff, reduceAdd, reduceMul, reduceSub, ↓reduceIte, eq_self, t3]) (by simp only [B, xB, F, reduceLT, reduceLeDiff, reduceEqDiff, reduceAdd, reduceMul, reduceSub, ↓reduceIte, eq_self, t4]) (by simp only [B, xB, F, reduceLT, reduceLeDiff, reduceEqDiff, reduceAdd, reduceMul, reduceSub, ↓reduceIte, eq_self, t5]) (by simp only [B, xB, F, reduceLT, reduceLeDiff, reduceEqDiff, reduceAdd, reduceMul, reduceSub, ↓reduceIte, eq_self, t6]) (by simp only [B, xB, F, reduceLT, reduceLeDiff, reduceEqDiff, reduceAdd, reduceMul, reduceSub, ↓reduceIte, eq_self])
    have dc : decide (num < lv) = false := decide_eq_false qc
    by_cases qd : num = lv
    ·have dd : decide (num = lv) = true := decide_eq_true qd
     have dr : decide (rv = rv) = true := decide_eq_true rfl
     rw [sC (by omega) qd]
     repeat' (first | ((with_reducible refine st1 ?_); (conv => whnf); (with_reducible refine ⟨?_⟩)) | ((with_reducible refine retW_intro rfl ?_); (conv => arg 2; whnf)) | ((with_reducible first | refine iB ?_ ?_ | refine gWt ?_ ?_ | refine gWf ?_ ?_) <;> intro hb <;> (try simp only [hb])) | (simp only [B, xB, F, reduceLT, reduceLeDiff, reduceEqDiff, reduceAdd, reduceMul, reduceSub, ↓reduceIte, eq_self, t0, t3, t4, t5, t6, t7, e0, da, a5, y5, a6, y6, w1, db, dc, dd, dr, Bool.not_true, wk1, wk2]))
     refine ((doneAgain h5 bb rb Bk on5.bk (k + 1) num _ (fun n s e => by have := (on.st.bnd _ _ _ e).1; omega) rv (sC (by omega) qd)).call P).mono P ?_
     rintro v h6 ⟨rfl, o6⟩
     repeat' (first | ((with_reducible refine st1 ?_); (conv => whnf); (with_reducible refine ⟨?_⟩)) | ((with_reducible refine retW_intro rfl ?_); (conv => arg 2; whnf)) | ((with_reducible first | refine iB ?_ ?_ | refine gWt ?_ ?_ | refine gWf ?_ ?_) <;> intro hb <;> (try simp only [hb])) | (simp only [B, xB, F, reduceLT, reduceLeDiff, reduceEqDiff, reduceAdd, reduceMul, reduceSub, ↓reduceIte, eq_self, t0, t3, t4, t5, t6, t7, wi]))
     exact fin _ _ _ _ _ _ _ _ (on6.keep o6) (by simp only [B, xB, F, reduceLT, reduceLeDiff, reduceEqDiff, reduceAdd, reduceMul, reduceSub, ↓reduceIte, eq_self, t0]) (by simp only [B, xB, F, reduceLT, reduceLeDiff, reduceEqDiff, reduceAdd, reduceMul, reduceSub, ↓reduceIte, eq_self, t3]) (by simp only [B, xB, F, reduceLT, reduceLeDiff, reduceEqDiff, reduceAdd, reduceMul, reduceSub, ↓reduceIte, eq_self, t4]) (by simp only [B, xB, F, reduceLT, reduceLeDiff, reduceEqDiff, reduceAdd, reduceMul, reduceSub, ↓reduceIte, eq_self, t5]) (by simp only [B, xB, F, reduceLT, reduceLeDiff, reduceEqDiff, reduceAdd, reduceMul, reduceSub, ↓reduceIte, eq_self, t6]) (by simp only [B, xB, F, reduceLT, reduceLeDiff, reduceEqDiff, reduceAdd, reduceMul, reduceSub, ↓reduceIte, eq_self])
    have dd : decide (num = lv) = false := decide_eq_false qd
    have qe : num = lv + 1:= by omega
    rw [sD qe]
    obtain ⟨hz8, hzb⟩ := textZ_ok hi2 hb
    obtain ⟨hA, hAe⟩ : ∃ hA, hA = h5.newCells 5 (List.replicate (b * 3) (.int .u8 (.ofNat 0))) := ⟨_, rfl⟩
    have mk := mkZ h5 (b * 3) (by omega)
    have cv1 := fun h' => cvZ h5 h' (b * 3)
    rw [← hAe] at mk cv1
    obtain ⟨hB, hBe⟩ : ∃ hB, hB = hA.newCells 5 [.int .u8 (.ofNat i)] := ⟨_, rfl⟩
    have oA : Og h5 hA []:= by rw [hAe]; exact (Og.refl _ _).new _ _
    have oB : Og hA hB []:= by rw [hBe]; exact (Og.refl _ _).new _ _
    have xA : hA.nx = h5.nx + 1:= by rw [hAe]; rfl
    have cvA := cv1 hA rfl
    have frA : freshIs 5 (List.replicate (b * 3) (.int .u8 (.ofNat 0))) (hA.t.get h5.nx) = true:= by rw [hAe]; exact freshIs_new (T.same_refl _)
    have frB : freshIs 5 (List.replicate (b * 3) (.int .u8 (.ofNat 0))) (hB.t.get h5.nx) = true:= by rw [oB.1.2 _ (by omega) (by simp)]; exact frA
    have cvB := cv1 hB (oB.1.2 _ (by omega) (by simp))
    have cv2 := conv_bytes (h := hB) (b := hA.nx) (o := 0) (n := 1) (cap := .exact 1) (l := [i]) rfl (by simp) (fun j hj => by
     rw [hBe, cellAt_new, if_pos rfl, Nat.zero_add]
     match j, hj with
     | 0, _ => rfl) (fun c hc => by rw [List.mem_singleton] at hc; omega)
    have wb : wrapF .i64 (Int.ofNat b) = Int.ofNat b := by
     have := i64_add (a := b) (b := 0) (by omega)
     simpa using this
    have wb3 : wrapF .i64 (Int.ofNat b * Int.ofNat 3) = Int.ofNat (b * 3) := by
     have h1 : Int.ofNat b * Int.ofNat 3 = Int.ofNat (b * 3) := rfl
     rw [h1]
     have := i64_add (a := b * 3) (b := 0) (by omega)
     simpa using this
    have w8 : wrapF .u8 (Int.ofNat i) = Int.ofNat i:= by rw [u8_mod, Nat.mod_eq_of_lt (by omega)]
    have ad := fun h t x y => b_addS (a := List.replicate (b * 3) 0) (b := [i]) (by simp; omega) h t x y
    have de : decide (([] : List Nat) = []) = true := decide_eq_true rfl
    have c1h := kc p1 on5.oo hlb (by simp)
    have hx5 := on5.oo.1.1
    have c1A := kc c1h oA (by omega) (by simp)
    have c1B := kc c1A oB (by omega) (by simp)
    repeat' (first | ((with_reducible refine st1 ?_); (conv => whnf); (with_reducible refine ⟨?_⟩)) | ((with_reducible refine st_dp ord3_0 ?_ rfl rfl ?_); exact rfl; (conv => arg 4; whnf); (conv => arg 3; whnf)) | ((with_reducible refine st_dp ord3_1 ?_ rfl rfl ?_); exact rfl; (conv => arg 4; whnf); (conv => arg 3; whnf)) | ((with_reducible refine retW_intro rfl ?_); (conv => arg 2; whnf)) | ((with_reducible first | refine iB ?_ ?_ | refine gWt ?_ ?_ | refine gWf ?_ ?_ | refine gXt ?_ ?_ | refine gXf ?_ ?_) <;> intro hb <;> (try simp only [hb])) | ((with_reducible show drawP _ _ _ _ _ _ _ _ _); first | ((with_reducible apply kP_rd); exact rfl; exact rfl) | ((with_reducible apply kP_rg); exact rfl; exact rfl; exact rfl) | ((with_reducible apply kP_cv); exact rfl; exact rfl; kernel_rfl) | ((with_reducible apply kP_al); exact rfl; exact rfl; exact rfl) | ((with_reducible apply kP_fl); exact rfl; exact rfl; exact rfl) | ((with_reducible apply kP_ex); exact rfl; exact rfl; kernel_rfl; exact rfl) | ((with_reducible apply kP_eg); exact rfl; exact rfl; kernel_rfl; exact rfl) | ((with_reducible refine kP_nl ?_ ?_))) | ((with_reducible show eOk _ _ _ _ _ _); first | (exact eok_nil) | (refine ke_rd ?_ ?_ ?_; exact rfl) | (apply ke_rg; exact rfl; exact rfl) | (refine ke_cv ?_ ?_ ?_ ?_; exact rfl; kernel_rfl) | (apply ke_fl; exact rfl) | (apply ke_al; exact rfl; exact rfl)) | ((with_reducible refine freshIs_new ?_); kernel_rfl) | (simp only [B, xB, F, reduceLT, reduceLeDiff, reduceEqDiff, reduceAdd, reduceMul, reduceSub, ↓reduceIte, eq_self, t0, t3, t4, t5, t6, t7, e0, da, a5, y5, w1, db, dc, dd, Bool.not_true, hlen, lt1, c1h, c1A, c1B, frA, frB, j1, wb, wb3, mk, cvA, cvB, w8, ← hBe, cv2, ad, wk1, wk2, @fresh2_mk, oaF_some, rowMZ (b * 3) (by omega), ← hAe]))
    have o5B := oA.t oB
    have on7 := on5.keep o5B
    have hMl : k + 1 < M64:= by have hM : M64 = 18446744073709551616 := rfl; omega
    have hMn : num < M64:= by have hM : M64 = 18446744073709551616 := rfl; omega
    refine ((doneOk hB bb rb Bk on7.bk (gl.keep on7.oo (by simp)) (k + 1) num (textZ i b) (fun n s e => by have := on.st.bnd _ _ _ e; omega) hMn (by omega) hMl [] (sD qe)).call P).mono P ?_
    rintro v h7 ⟨ro, rfl, og7, bk7, ge7, mp7⟩
    obtain ⟨ez, dnd⟩ := done_out on.st (by omega) (k + 1) num (textZ i b) (by omega) hMn (by omega)
    have mp7 := mp7
    replace mp7 : MapK encS h7 ro (mS (dlt (k + 1) num (textZ i b) (oldN (k + 1) Bk))):= by rw [← ez]; exact mp7
    subst qe
    have ne := on.ne
    have ge := on.ge
    have lt := on.lt
    have ltm := on.mx.lt
    have xB := oB.1.1
    have xBA := oA.1.1
    have x7 := og7.1.1
    have x5 := o5.1.1
    have old7 : ∀ c, c < h.nx → c ≠ rb → h7.t.get c = h.t.get c := fun c hc hn => by
     rw [og7.1.2 c (by omega) (by simp; exact hn), o5B.1.2 c (by omega) (by simp), o5.1.2 c hc (by simp)]
    have oo7 : Og h0 h7 [] := ⟨⟨by omega, fun c hc _ => by rw [old7 c (by omega) (by omega)]; exact on.oo.1.2 c hc (by simp)⟩, by rw [og7.2, o5B.2, o5.2, on.oo.2]⟩
    repeat' (first | (with_reducible refine stopC [1, 1, 1, 1, 1, 1, 1, 1, 1, 0, 0, 1, 0, 0, 1, 0, 1, 1, 1, 1, 1] ?_) | ((with_reducible refine st1 ?_); (conv => whnf); (with_reducible refine ⟨?_⟩)) | ((with_reducible refine retW_intro rfl ?_); (conv => arg 2; whnf)) | ((with_reducible first | refine iB ?_ ?_ | refine gWt ?_ ?_ | refine gWf ?_ ?_) <;> intro hb <;> (try simp only [hb])) | (simp only [B, xB, F, reduceLT, reduceLeDiff, reduceEqDiff, reduceAdd, reduceMul, reduceSub, ↓reduceIte, eq_self, t0, t3, t4, t5, t6, t7, Bool.not_true]))
    refine ⟨onceTail h0 h7 gl (.slice lb lo l.length lc) h2.nx (h2.nx + 1) h1.nx bb rb ro Bk X ls rs i k lv (textZ i b) hi2 hk8 hlv hz8 hzb oo7 bk7 (on.mx.get (by omega) (old7 _ ltm ne.2.1)) on.st
     (fun k v e => by rw [cellAt_of_get (old7 _ lt.1 ne.2.2.2.1)]; exact on.c5 k v e) (fun k v e => by rw [cellAt_of_get (old7 _ lt.2 ne.2.2.2.2.2.2.1)]; exact on.c6 k v e) (by rw [wrAt_of_get (old7 _ lt.1 ne.2.2.2.1)]; exact on.w5) (by rw [wrAt_of_get (old7 _ lt.2 ne.2.2.2.2.2.2.1)]; exact on.w6)
     on.lv ge ne (by omega) mp7 (by omega) dnd _ (by simp only [B, xB, F, reduceLT, reduceLeDiff, reduceEqDiff, reduceAdd, reduceMul, reduceSub, ↓reduceIte, eq_self, t0]) (by simp only [B, xB, F, reduceLT, reduceLeDiff, reduceEqDiff, reduceAdd, reduceMul, reduceSub, ↓reduceIte, eq_self, t3]) (by simp only [B, xB, F, reduceLT, reduceLeDiff, reduceEqDiff, reduceAdd, reduceMul, reduceSub, ↓reduceIte, eq_self, t4]) (by simp only [B, xB, F, reduceLT, reduceLeDiff, reduceEqDiff, reduceAdd, reduceMul, reduceSub, ↓reduceIte, eq_self, t5]) (by simp only [B, xB, F, reduceLT, reduceLeDiff, reduceEqDiff, reduceAdd, reduceMul, reduceSub, ↓reduceIte, eq_self, t6]) (by simp only [B, xB, F, reduceLT, reduceLeDiff, reduceEqDiff, reduceAdd, reduceMul, reduceSub, ↓reduceIte, eq_self, t7]) (by simp only [B, xB, F, reduceLT, reduceLeDiff, reduceEqDiff, reduceAdd, reduceMul, reduceSub, ↓reduceIte, eq_self]) (by simp only [B, xB, F, reduceLT, reduceLeDiff, reduceEqDiff, reduceAdd, reduceMul, reduceSub, ↓reduceIte, eq_self]) (by (simp only [B, xB, F, reduceLT, reduceLeDiff, reduceEqDiff, reduceAdd, reduceMul, reduceSub, ↓reduceIte, eq_self]; rfl)) (by simp only [B, xB, F, reduceLT, reduceLeDiff, reduceEqDiff, reduceAdd, reduceMul, reduceSub, ↓reduceIte, eq_self]) _ ?_⟩
    intro tm2 h8 Bk2 Z ls2 rs2 on8 q0 q3 q4 q5 q6 q7
    repeat' (first | ((with_reducible refine st1 ?_); (conv => whnf); (with_reducible refine ⟨?_⟩)) | ((with_reducible refine retW_intro rfl ?_); (conv => arg 2; whnf)) | ((with_reducible first | refine iB ?_ ?_ | refine gWt ?_ ?_ | refine gWf ?_ ?_) <;> intro hb <;> (try simp only [hb])) | (simp only [B, xB, F, reduceLT, reduceLeDiff, reduceEqDiff, reduceAdd, reduceMul, reduceSub, ↓reduceIte, eq_self, q0, q3, q4, q5, q6, q7, wi]))
    exact fin _ _ _ _ _ _ _ _ on8 (by simp only [B, xB, F, reduceLT, reduceLeDiff, reduceEqDiff, reduceAdd, reduceMul, reduceSub, ↓reduceIte, eq_self, q0]) (by simp only [B, xB, F, reduceLT, reduceLeDiff, reduceEqDiff, reduceAdd, reduceMul, reduceSub, ↓reduceIte, eq_self, q3]) (by simp only [B, xB, F, reduceLT, reduceLeDiff, reduceEqDiff, reduceAdd, reduceMul, reduceSub, ↓reduceIte, eq_self, q4]) (by simp only [B, xB, F, reduceLT, reduceLeDiff, reduceEqDiff, reduceAdd, reduceMul, reduceSub, ↓reduceIte, eq_self, q5]) (by simp only [B, xB, F, reduceLT, reduceLeDiff, reduceEqDiff, reduceAdd, reduceMul, reduceSub, ↓reduceIte, eq_self, q6]) (by simp only [B, xB, F, reduceLT, reduceLeDiff, reduceEqDiff, reduceAdd, reduceMul, reduceSub, ↓reduceIte, eq_self])
  ·have d2 : decide (i < 200) = false := decide_eq_false hi2
   repeat' (first | ((with_reducible refine st1 ?_); (conv => whnf); (with_reducible refine ⟨?_⟩)) | ((with_reducible refine retW_intro rfl ?_); (conv => arg 2; whnf)) | ((with_reducible first | refine iB ?_ ?_ | refine gWt ?_ ?_ | refine gWf ?_ ?_) <;> intro hb <;> (try simp only [hb])) | (simp only [B, xB, F, reduceLT, reduceLeDiff, reduceEqDiff, reduceAdd, reduceMul, reduceSub, ↓reduceIte, eq_self, t0, t7, hlen, d1, d2]))
   refine ((worksC h (gl.keep on.oo (by simp))).call P).mono P ?_
   rintro _ h5 ⟨rfl, o5⟩
   repeat' (first | ((with_reducible refine st1 ?_); (conv => whnf); (with_reducible refine ⟨?_⟩)) | ((with_reducible refine retW_intro rfl ?_); (conv => arg 2; whnf)) | ((with_reducible first | refine iB ?_ ?_ | refine gWt ?_ ?_ | refine gWf ?_ ?_) <;> intro hb <;> (try simp only [hb])) | (simp only [B, xB, F, reduceLT, reduceLeDiff, reduceEqDiff, reduceAdd, reduceMul, reduceSub, ↓reduceIte, eq_self]))
 ·have d1 : decide (i < l.length) = false := decide_eq_false hi1
  repeat' (first | ((with_reducible refine st1 ?_); (conv => whnf); (with_reducible refine ⟨?_⟩)) | ((with_reducible refine retW_intro rfl ?_); (conv => arg 2; whnf)) | ((with_reducible first | refine iB ?_ ?_ | refine gWt ?_ ?_ | refine gWf ?_ ?_) <;> intro hb <;> (try simp only [hb])) | (simp only [B, xB, F, reduceLT, reduceLeDiff, reduceEqDiff, reduceAdd, reduceMul, reduceSub, ↓reduceIte, eq_self, t0, t7, hlen, d1]))
  refine ((worksC h (gl.keep on.oo (by simp))).call P).mono P ?_
  rintro _ h5 ⟨rfl, o5⟩
  repeat' (first | ((with_reducible refine st1 ?_); (conv => whnf); (with_reducible refine ⟨?_⟩)) | ((with_reducible refine retW_intro rfl ?_); (conv => arg 2; whnf)) | ((with_reducible first | refine iB ?_ ?_ | refine gWt ?_ ?_ | refine gWf ?_ ?_) <;> intro hb <;> (try simp only [hb])) | (simp only [B, xB, F, reduceLT, reduceLeDiff, reduceEqDiff, reduceAdd, reduceMul, reduceSub, ↓reduceIte, eq_self]))
end
end Go.Proofs.YtllmfnedkhiomaaGreatDoor.S

namespace Go.Proofs.YtllmfnedkhiomaaGreatDoor.S
open Go Go.AX
noncomputable section
set_option maxRecDepth 100000
def tab64 : List Int := [0, 1, 56, 2, 57, 49, 28, 3, 61, 58, 42, 50, 38, 29, 17, 4, 62, 47, 59, 36, 45, 43, 51, 22, 53, 39, 33, 30, 24, 18, 12, 5, 63, 55, 48, 27, 60, 41, 37, 16, 46, 35, 44, 21, 52, 32, 23, 11, 54, 26, 40, 15, 34, 20, 31, 10, 25, 14, 19, 9, 13, 8, 7, 6]
theorem start {w : World} {l : List (String × DataW Unit)} (h : laidMet P l w) (hm : ("math/bits.deBruijn64tab", Rows.laid_math_bits_deBruijn64tab) ∈ l) :
  Gl (absHg w 8) ∧ 8 ≤ w.heap.size := by
 obtain ⟨g, t, cs, fuel, p, hg, hty, hvar, hd⟩ := Go.Lib.laidMet.reads h hm
 have e1 : P.globalNamed "math/bits.deBruijn64tab" = some 7:= by kernel_rfl
 have e2 : (P.globals[7]?).map (·.type) = some 184:= by kernel_rfl
 obtain rfl := Option.some.inj (e1.symm.trans hg)
 obtain rfl := Option.some.inj (e2.symm.trans hty)
 have hcs := Go.Lib.cells_of_tab (k := .u8) (zs := tab64) u130a (show P.underlying 5 = some (.int .u8) by kernel_rfl) (by kernel_rfl) (by kernel_rfl) hd
 unfold World.var? at hvar
 rw [hg] at hvar
 simp only [Option.bind_some] at hvar
 split at hvar
 ·rename_i c t' frz hb
  cases hvar
  have hlt : 7 < w.heap.size := (Array.getElem?_eq_some_iff.1 hb).1
  have h15 : cs[15]? = some (Value.int .u8 4) := by
   rw [← Array.getElem?_toList, hcs]; rfl
  refine ⟨⟨Nat.lt_succ_self _, ?_, hlt⟩, hlt⟩
  exact absHg_cell (v := .int .u8 4) (by unfold World.cell?; simp only [hb]; exact h15) rfl
 ·cases hvar
theorem u5t : P.underlying 5 = some (.int .u8):= by kernel_rfl
def twoB (x : Nat × Nat) : List (Value × AV) := [(.int .u8 (.ofNat x.1), .int .u8 (.ofNat x.1)), (.int .u8 (.ofNat x.2), .int .u8 (.ofNat x.2))]
theorem twoB_abs (y : Nat × Nat) (p : Value × AV) (n : Nat) (h : p ∈ twoB y) : absV n p.1 = some p.2 := by
 unfold twoB at h
 simp only [List.mem_cons, List.mem_nil_iff, or_false] at h
 rcases h with rfl | rfl <;> rfl
theorem two_dec {K : Type} {enc : TypeId × Value → K} {w : World} {b : Nat} {sp : Nat → Bool} {hd : Bool} (n : Nat) (cs : List Value) (x : DataW K × List MemPlace) (h : DataW.trod enc P w b sp hd n 29 cs = some x) : ∃ a : Nat × Nat, (a.1 < 256 ∧ a.2 < 256) ∧ cs = (twoB a).map (·.1) := by
 obtain ⟨xs, m, _, _, hl, hlen, hx⟩ := DataW.trod_array u29t h
 have h0 := hx 0 (by omega)
 have h1 := hx 1 (by omega)
 rw [List.getElem?_eq_getElem (by omega), co5] at h0 h1
 rw [show P.cellsOf 29 = 2 by kernel_rfl] at hl
 obtain ⟨a, e0, q0⟩ := trod_nat (k := .u8) rfl u5t h0
 obtain ⟨c, e1, q1⟩ := trod_nat (k := .u8) rfl u5t h1
 match cs, hl with
 | [c0, c1], _ =>
  simp at e0 e1
  exact ⟨(a, c), ⟨q0, q1⟩, by rw [e0, e1]; rfl⟩
end
end Go.Proofs.YtllmfnedkhiomaaGreatDoor.S
namespace Go.Proofs.YtllmfnedkhiomaaGreatDoor.sessOnce
open Go.ChangeShapes Go.WideShapes Go.ChangeAt Go.RowKit
theorem own : ownKnob Tryz.prog.godebug = none:= by kernel_rfl
theorem laidOut : laidOutB Tryz.prog = true:= by kernel_rfl
theorem readable : ∀ t, t ∈ [22] → Tryz.prog.readableRec t = true ∧ t < Tryz.prog.types.size := by
 intro t ht
 simp only [List.mem_cons, List.mem_nil_iff, or_false] at ht
 rcases ht with rfl
 exact ⟨by kernel_rfl, of_decide_eq_true (by kernel_rfl)⟩
theorem plain (w : World) : laidMetH Tryz.prog Rows.sessOnceRow.laid w = laidMet Tryz.prog Rows.sessOnceRow.laid w := Go.MakeChecks.laidMetH_plain _ _ _ (by kernel_rfl)
set_option maxRecDepth 100000 in
theorem witness (os : Os) (args : Array Value) : laidMet Tryz.prog Rows.sessOnceRow.laid ((World.laidAll Tryz.prog os Rows.sessOnceRow.laid).forCall (fun _ _ => 0) ⟨#[], args, []⟩).memory :=
 laidMet_laidAll args (by kernel_rfl) (by kernel_rfl)
set_option maxRecDepth 100000 in
theorem walk (M : World) (gl : S.Gl (AX.absHg M 8)) (h8 : 8 ≤ M.heap.size) (vl : AX.AV) (l : List (Nat × Nat)) (cl : Value) (hv : AX.VR (AX.absPhi M.heap.size) vl cl) (sl : AX.SliceAt (AX.absHg M 8) vl l.length (l.flatMap S.cs2)) (hl : ∀ x, x ∈ l → x.1 < 256 ∧ x.2 < 256) :
  Calls Tryz.prog 3 #[cl] M fun e w' => e = .returned (.bool true) ∧ Below M.heap.size M w' := by
 have hw' := S.onceW (AX.absHg M 8) gl vl l sl hl
 refine (AX.calls_of_codeW (fn := Tryz.f3) (c := AX.bodyC Tryz.f3) Tryz.func3 rfl hw' (AX.absHg_rel M h8) (Nat.le_refl _) (cargs := #[cl]) ⟨hv, trivial⟩).mono ?_
 rintro e1 w' ⟨N', φ', cv', v, h', _, rfl, hq, _, hv', _, hb⟩
 have hq : v = .bool true := hq
 subst hq
 rw [AX.VR_bool] at hv'; subst hv'
 exact ⟨rfl, hb⟩
set_option maxRecDepth 100000 in
theorem lifted (os : Os) (started : os.Started) (H : Type) (enc : TypeId × Value → H) :
  ReturnsInHanded {} Tryz.checked os 3 .any (fun w args => (Rows.sessOnceSpec.pre enc Tryz.prog Tryz.f3 [] false w args ∧ laidMetH Tryz.prog Rows.sessOnceRow.laid w) ∧ sizedMet enc Tryz.prog Tryz.f3 (OpenSpec.ofChange Rows.sessOnceSpec) false w args)
   (Rows.sessOnceSpec.post enc Tryz.prog Tryz.f3 false true false false) := by
 refine returnsInHanded_of_change_and (C := Tryz.checked) (X := fun w _ => laidMetH Tryz.prog Rows.sessOnceRow.laid w) (fun _ _ _ hh h => h.of_heap hh) own started (by kernel_rfl) Tryz.func3
  (ChangeSpec.witness_shaped (enc := enc) (C := Tryz.checked) (os := os) (X := fun w _ => laidMetH Tryz.prog Rows.sessOnceRow.laid w) false (World.laidAll Tryz.prog os Rows.sessOnceRow.laid) #[.slice none 0 0] 8 (World.laidAll_os _ _ _) (World.shaped_of_ZipB (by kernel_rfl) (by kernel_rfl)) (by kernel_rfl) (by kernel_rfl) (by kernel_rfl) (by rw [plain]; exact witness os _)) ?_
 intro M base args ds gs before hval0 hW _ _ hL _
 have hW' := hW
 have hlt := hW.lt
 obtain ⟨p, q, hA0, hV, rfl, hfz, hnd⟩ := hW
 have hA : DataW.TrodAll enc Tryz.prog M 0 (fun _ => true) true Tryz.f3.params.toList args.toList ds p := hA0
 rw [Tryz.params3] at hA hval0
 have hA1 := hA
 obtain ⟨v0, vs0, d0, ds0, p0, q0, hargs, rfl, rfl, g0, r0⟩ := trodAll_cons hA
 obtain ⟨rfl, rfl, rfl⟩ := trodAll_nil r0
 obtain rfl : args = #[v0]:= by cases args; simp_all
 obtain ⟨rfl, rfl⟩ := trodVars_none hV
 have hL' : laidMetH Tryz.prog Rows.sessOnceRow.laid M := hL
 rw [plain] at hL'
 obtain ⟨gl, h8⟩ := S.start hL' (by simp [Rows.sessOnceRow])
 obtain ⟨vl, l, hv, sl, hl, _⟩ := AX.rows_argV (size := 2) S.u22s (by kernel_rfl) (by omega) S.twoB (fun x => x.1 < 256 ∧ x.2 < 256) S.twoB_abs (fun n cs x h => S.two_dec n cs x h) (hval0 0 22 v0 rfl rfl) g0
 simp only [List.append_nil] at hW' hlt
 refine (walk M gl h8 vl l v0 hv (AX.absHg_slice sl) hl).mono fun e1 M' ⟨he, hb⟩ => ?_
 subst he
 exact ⟨_, rfl, _, [], _, [], _, [], hW', trodAll_cons_mk (shut_bool Tryz.underlying4 _) trodAll_mk0, AX.trodAll_below laidOut hb readable hA1 (fun p hp => hlt p (by simpa using hp)) _ (fun p hp => decide_eq_true (hlt p (by simpa using hp))), rfl, hb.frame _, fun h => by cases h⟩
theorem over : Rows.SessOnceSaid :=
 OpenClaim.holds_of_wide 3 Tryz.f3 rfl rfl rfl rfl rfl rfl rfl ⟨rfl, rfl, rfl, rfl, rfl⟩ rfl rfl rfl rfl rfl (by kernel_rfl) Tryz.func3 (by kernel_rfl)
  (of_decide_eq_true (by kernel_rfl)) (by unfold Func.isWrapper; first | (rw [if_pos (by decide +kernel)]; kernel_rfl) | (rw [if_neg (by decide +kernel)]; exact ⟨rfl, rfl⟩))
  (fun os started H enc _ => lifted os started H enc)
theorem proved : Rows.SessOnceCardSaid :=
 Claim7.holds_tied_plain_at .later [] [.data, .data, .data, .data, .sentinel, .sentinel, .pinned] true (true, "e955fe4fc004cc64451b24886a51b50ca7b5ad9bc50d62bfb85b541788bc552d") true
  over (fun _ h => by cases h) (by kernel_rfl) (fun _ h => by cases h) sessOnce_row_tie rfl ⟨rfl, rfl⟩ (by kernel_rfl) rfl
  (fun f fn hf hfn => by
   obtain rfl : f = 3 := Option.some.inj ((show Tryz.prog.funcNamed "sediment/sedimentlaw21.SessOnce" = some 3 by kernel_rfl).symm.trans hf) |>.symm
   obtain rfl : fn = Tryz.f3 := (Option.some.inj (Tryz.func3.symm.trans hfn)).symm
   refine ⟨by kernel_rfl, fun j t ht => ?_⟩
   have ht : (Tryz.f3.params)[j]? = some t := ht
   rw [← Array.getElem?_toList, Tryz.params3] at ht
   match j, ht with
   | 0, ht =>
    obtain rfl : 22 = t := Option.some.inj ht
    exact (show Tryz.prog.wantsStandIn 22 = false by kernel_rfl)
   | j + 1, ht => simp at ht)
  (by kernel_rfl)
#print axioms proved
end Go.Proofs.YtllmfnedkhiomaaGreatDoor.sessOnce


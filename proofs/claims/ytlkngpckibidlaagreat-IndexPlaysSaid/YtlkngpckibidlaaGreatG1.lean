/-
  gens: Compact.
-/
import Derived.Test.YtlkngpckibidlaaGreatAxI
import Derived.Test.YtlkngpckibidlaaGreatG0
import Derived.Test.YtlkngpckibidlaaGreatAxG
import Derived.Test.YtlkngpckibidlaaGreatAxF
import Derived.Lib.Overlaps
import Derived.ChangeKeysEq
set_option linter.unusedSimpArgs false
set_option linter.unusedVariables false
set_option linter.unusedSectionVars false
open Nat (reduceLT reduceLeDiff reduceEqDiff reduceAdd reduceMul reduceSub)
namespace Go.Proofs.YtlkngpckibidlaaGreat.W
open Go Go.AX
noncomputable section
set_option maxRecDepth 100000
theorem leftPuts_keep {is : Bool} {mod : Rv} {m : Nat} {g : Gn} {j : Nat} {r : Rv} (hr : g.puts[j]? = some r) (hk : keepR is mod m r = true) : leftPuts is mod m g (j + 1) = leftPuts is mod m g j ++ [r] := by
 unfold leftPuts
 rw [List.take_add_one, hr, List.filter_append]
 simp [hk]
theorem leftPuts_skip {is : Bool} {mod : Rv} {m : Nat} {g : Gn} {j : Nat} {r : Rv} (hr : g.puts[j]? = some r) (hk : keepR is mod m r = false) : leftPuts is mod m g (j + 1) = leftPuts is mod m g j := by
 unfold leftPuts
 rw [List.take_add_one, hr, List.filter_append]
 simp [hk]
theorem leftFirst_skip {is : Bool} {mod : Rv} {m : Nat} {g : Gn} {j : Nat} {r : Rv} (hr : g.puts[j]? = some r) (hk : keepR is mod m r = false) : leftFirst is mod m g (j + 1) = leftFirst is mod m g j := by
 unfold leftFirst; rw [leftPuts_skip hr hk]
theorem leftFirst_keep0 {is : Bool} {mod : Rv} {m : Nat} {g : Gn} {j : Nat} {r : Rv} (hr : g.puts[j]? = some r) (hk : keepR is mod m r = true) (h0 : leftPuts is mod m g j = []) : leftFirst is mod m g (j + 1) = (g.first + j) % M64 := by
 unfold leftFirst
 rw [leftPuts_keep hr hk, if_neg (by simp)]
 have hj : j < g.puts.length := (List.getElem?_eq_some_iff.1 hr).1
 have he : g.puts[j] = r := (List.getElem?_eq_some_iff.1 hr).2
 have : g.puts.findIdx (keepR is mod m) = j := by
  rw [List.findIdx_eq hj]
  refine ⟨by rw [he]; exact hk, fun i hi => ?_⟩
  unfold leftPuts at h0
  rw [List.filter_eq_nil_iff] at h0
  have := h0 (g.puts[i]'(by omega)) (List.mem_of_getElem? (i := i) (by rw [List.getElem?_take, if_pos hi, List.getElem?_eq_getElem (by omega)]))
  simpa using this
 rw [this]
theorem leftFirst_keep1 {is : Bool} {mod : Rv} {m : Nat} {g : Gn} {j : Nat} {r : Rv} (hr : g.puts[j]? = some r) (hk : keepR is mod m r = true) (h0 : leftPuts is mod m g j ≠ []) : leftFirst is mod m g (j + 1) = leftFirst is mod m g j := by
 unfold leftFirst
 rw [leftPuts_keep hr hk, if_neg (by simp), if_neg h0]
theorem leftPuts_len (is : Bool) (mod : Rv) (m : Nat) (g : Gn) (j : Nat) : (leftPuts is mod m g j).length ≤ g.puts.length := by
 unfold leftPuts
 exact Nat.le_trans (List.length_filter_le _ _) (by rw [List.length_take]; exact Nat.min_le_right _ _)
structure CI (h0 : H) (b8 : Nat) (s : AV) (X : List (Gn × AV)) (m : Nat) (is : Bool) (mod : Rv) (n : Nat) (ds : List Nat) (tm : T AV) (h : H) (i : Nat) (X' : List (Gn × AV)) (ov : AV) : Prop where
 ds : ds = []
 nn : n = X.length - i
 ii : i ≤ X.length
 t1 : tm.get 1 = some (.int .u64 (.ofNat m))
 t4 : tm.get 4 = some (.ptr (h0.nx + 1) 0)
 t6 : tm.get 6 = some (.ptr (h0.nx + 2) 0)
 t7 : tm.get 7 = some .nilslice
 t8 : tm.get 8 = some (.ptr b8 0)
 t11 : tm.get 11 = some (.bool is)
 t26 : tm.get 26 = some s
 t27 : tm.get 27 = some (.int .i64 (.ofNat X.length))
 t28 : tm.get 28 = some (.int .i64 (.ofNat i))
 oo : Only h0 h []
 nx : h0.nx + 3 ≤ b8 ∧ b8 < h.nx
 w4 : wrAt h (h0.nx + 1) = true
 c4 : cellAt h (h0.nx + 1) 0 = some .nilslice
 w6 : wrAt h (h0.nx + 2) = true
 c6 : cellAt h (h0.nx + 2) 0 = some ov
 m0 : cellAt h b8 0 = some (.int .u64 (.ofNat mod.1))
 m1 : cellAt h b8 1 = some (.int .u64 (.ofNat mod.2))
 gr : Grows 6 (b8 + 1) h ov X'.length (X'.flatMap gC)
 ex : gs X' = (gs (X.take i)).filterMap (compG is mod m)
 nz : X' = [] → ov = .nilslice
 ps : ∀ x, x ∈ X' → SliceAt h x.2 x.1.puts.length (rvsC x.1.puts) ∧ (x.1.puts = [] → x.2 = .nilslice) ∧ ∀ b, blkOf x.2 = some b → b8 < b ∧ blkOf ov ≠ some b
structure DI (hg : H) (tg : T AV) (x : Gn × AV) (m : Nat) (is : Bool) (mod : Rv) (n : Nat) (ds : List Nat) (tm : T AV) (h : H) (j : Nat) (pv : AV) : Prop where
 ds : ds = []
 nn : n = x.1.puts.length - j
 jl : j ≤ x.1.puts.length
 tt : ∀ k, k ∈ [1, 4, 6, 7, 8, 11, 26, 27, 28] → tm.get k = tg.get k
 t13 : tm.get 13 = some (.ptr hg.nx 0)
 t14 : tm.get 14 = some (.ptr (hg.nx + 1) 0)
 t35 : tm.get 35 = some x.2
 t36 : tm.get 36 = some (.int .i64 (.ofNat x.1.puts.length))
 t37 : tm.get 37 = some (.int .i64 (.ofNat j))
 oo : Only hg h []
 nx : hg.nx + 2 ≤ h.nx
 g1 : cellAt h hg.nx 1 = some (.int .u64 (.ofNat x.1.first))
 g3 : cellAt h hg.nx 3 = some (.int .u64 (.ofNat x.1.en.1))
 g5 : cellAt h hg.nx 5 = some (.bool x.1.ended)
 w : wrAt h (hg.nx + 1) = true
 l0 : cellAt h (hg.nx + 1) 0 = some (.int .u64 (.ofNat x.1.made))
 l1 : cellAt h (hg.nx + 1) 1 = some (.int .u64 (.ofNat (leftFirst is mod m x.1 j)))
 l2 : cellAt h (hg.nx + 1) 2 = some pv
 l3 : cellAt h (hg.nx + 1) 3 = some (.int .u64 (.ofNat x.1.en.1))
 l4 : cellAt h (hg.nx + 1) 4 = some (.int .u64 (.ofNat x.1.en.2))
 l5 : cellAt h (hg.nx + 1) 5 = some (.bool x.1.ended)
 gr : Grows 2 (hg.nx + 2) h pv (leftPuts is mod m x.1 j).length (rvsC (leftPuts is mod m x.1 j))
 nz : leftPuts is mod m x.1 j = [] → pv = .nilslice
theorem DI.skip {hg : H} {tg : T AV} {x : Gn × AV} {m : Nat} {is : Bool} {mod : Rv} {n : Nat} {ds : List Nat} {tm tm' : T AV} {h h' : H} {j : Nat} {pv : AV} {r : Rv} (hI : DI hg tg x m is mod n ds tm h j pv) (ho : Only h h' []) (hr : x.1.puts[j]? = some r) (hk : keepR is mod m r = false)
  (tt : ∀ k, k ∈ [1, 4, 6, 7, 8, 11, 26, 27, 28, 13, 14, 35, 36] → tm'.get k = tm.get k) (q37 : tm'.get 37 = some (.int .i64 (.ofNat (j + 1)))) : DI hg tg x m is mod (x.1.puts.length - (j + 1)) [] tm' h' (j + 1) pv := by
 have hj : j < x.1.puts.length := (List.getElem?_eq_some_iff.1 hr).1
 obtain ⟨rfl, rfl, jl, tt0, q13, q14, q35, q36, _, oc, nxc, k1, k3, k5, wl, l0, l1, l2, l3, l4, l5, gr2, nz2⟩ := hI
 have hx := ho.1
 first | replace k1 := kcell k1 ho (by omega) (by simp) | replace k1 := kwr k1 ho (by omega) (by simp)
 first | replace k3 := kcell k3 ho (by omega) (by simp) | replace k3 := kwr k3 ho (by omega) (by simp)
 first | replace k5 := kcell k5 ho (by omega) (by simp) | replace k5 := kwr k5 ho (by omega) (by simp)
 first | replace wl := kcell wl ho (by omega) (by simp) | replace wl := kwr wl ho (by omega) (by simp)
 first | replace l0 := kcell l0 ho (by omega) (by simp) | replace l0 := kwr l0 ho (by omega) (by simp)
 first | replace l1 := kcell l1 ho (by omega) (by simp) | replace l1 := kwr l1 ho (by omega) (by simp)
 first | replace l2 := kcell l2 ho (by omega) (by simp) | replace l2 := kwr l2 ho (by omega) (by simp)
 first | replace l3 := kcell l3 ho (by omega) (by simp) | replace l3 := kwr l3 ho (by omega) (by simp)
 first | replace l4 := kcell l4 ho (by omega) (by simp) | replace l4 := kwr l4 ho (by omega) (by simp)
 first | replace l5 := kcell l5 ho (by omega) (by simp) | replace l5 := kwr l5 ho (by omega) (by simp)
 exact ⟨rfl, rfl, hj, fun k hk => (tt k (by simp only [List.mem_cons, List.mem_nil_iff, or_false] at hk ⊢; omega)).trans (tt0 k hk), by rw [tt _ (by simp)]; exact q13, by rw [tt _ (by simp)]; exact q14, by rw [tt _ (by simp)]; exact q35, by rw [tt _ (by simp)]; exact q36, q37,
  oc.trans ho (fun _ h => h) (fun _ h => by cases h), by omega, k1, k3, k5, wl, l0, by rw [leftFirst_skip hr hk]; exact l1, l2, l3, l4, l5, by rw [leftPuts_skip hr hk]; exact gr2.of_get hx (fun b hb => ho.2 b (gr2.base hb).2 (by simp)), by rw [leftPuts_skip hr hk]; exact nz2⟩
theorem DI.put {hg : H} {tg : T AV} {x : Gn × AV} {m : Nat} {is : Bool} {mod : Rv} {n : Nat} {ds : List Nat} {tm tm' : T AV} {h h' : H} {j : Nat} {pv pv' : AV} {r : Rv} (hI : DI hg tg x m is mod n ds tm h j pv) (hr : x.1.puts[j]? = some r) (hk : keepR is mod m r = true)
  (hx : h.nx ≤ h'.nx) (ho : ∀ b, b < h.nx → b ≠ hg.nx + 1 → blkOf pv ≠ some b → h'.t.get b = h.t.get b) (wl' : wrAt h' (hg.nx + 1) = true)
  (hl : ∀ k, k ≠ 1 → k ≠ 2 → cellAt h' (hg.nx + 1) k = cellAt h (hg.nx + 1) k) (l1' : cellAt h' (hg.nx + 1) 1 = some (.int .u64 (.ofNat (leftFirst is mod m x.1 (j + 1))))) (l2' : cellAt h' (hg.nx + 1) 2 = some pv')
  (gr' : Grows 2 (hg.nx + 2) h' pv' ((leftPuts is mod m x.1 j).length + 1) (rvsC (leftPuts is mod m x.1 j ++ [r])))
  (tt : ∀ k, k ∈ [1, 4, 6, 7, 8, 11, 26, 27, 28, 13, 14, 35, 36] → tm'.get k = tm.get k) (q37 : tm'.get 37 = some (.int .i64 (.ofNat (j + 1)))) : DI hg tg x m is mod (x.1.puts.length - (j + 1)) [] tm' h' (j + 1) pv' := by
 have hj : j < x.1.puts.length := (List.getElem?_eq_some_iff.1 hr).1
 obtain ⟨rfl, rfl, jl, tt0, q13, q14, q35, q36, _, oc, nxc, k1, k3, k5, wl, l0, l1, l2, l3, l4, l5, gr2, nz2⟩ := hI
 have hpb : ∀ b, b < hg.nx + 2 → blkOf pv ≠ some b := fun b hb q => by have := (gr2.base q).1; omega
 have hgc := cellAt_of_get (ho hg.nx (by omega) (by omega) (hpb _ (by omega)))
 exact ⟨rfl, rfl, hj, fun k hk => (tt k (by simp only [List.mem_cons, List.mem_nil_iff, or_false] at hk ⊢; omega)).trans (tt0 k hk), by rw [tt _ (by simp)]; exact q13, by rw [tt _ (by simp)]; exact q14, by rw [tt _ (by simp)]; exact q35, by rw [tt _ (by simp)]; exact q36, q37,
  ⟨by have := oc.1; omega, fun b hb hs => by have := oc.1; rw [ho b (by omega) (by omega) (hpb _ (by omega))]; exact oc.2 b hb hs⟩, by omega, by rw [hgc]; exact k1, by rw [hgc]; exact k3, by rw [hgc]; exact k5, wl', by rw [hl 0 (by omega) (by omega)]; exact l0, l1', l2', by rw [hl 3 (by omega) (by omega)]; exact l3, by rw [hl 4 (by omega) (by omega)]; exact l4, by rw [hl 5 (by omega) (by omega)]; exact l5,
  by rw [leftPuts_keep hr hk, List.length_append]; exact gr', fun q => by rw [leftPuts_keep hr hk] at q; simp at q⟩
theorem CI.skip {h0 : H} {b8 : Nat} {s : AV} {X : List (Gn × AV)} {m : Nat} {is : Bool} {mod : Rv} {n : Nat} {ds : List Nat} {tm tm' : T AV} {h h' : H} {i : Nat} {X' : List (Gn × AV)} {ov : AV} {x : Gn × AV} (hI : CI h0 b8 s X m is mod n ds tm h i X' ov) (ho : Only h h' []) (hx : X[i]? = some x)
  (hk : compG is mod m x.1 = none) (tt : ∀ k, k ∈ [1, 4, 6, 7, 8, 11, 26, 27] → tm'.get k = tm.get k) (q28 : tm'.get 28 = some (.int .i64 (.ofNat (i + 1)))) : CI h0 b8 s X m is mod (X.length - (i + 1)) [] tm' h' (i + 1) X' ov := by
 have hi : i < X.length := (List.getElem?_eq_some_iff.1 hx).1
 obtain ⟨rfl, rfl, ii, t1, t4, t6, t7, t8, t11, t26, t27, t28, oo, nx, w4, c4, w6, c6, m0, m1, gr, ex, nz, ps⟩ := hI
 have h1 := ho.1
 have h2 := oo.1
 first | replace w4 := kcell w4 ho (by omega) (by simp) | replace w4 := kwr w4 ho (by omega) (by simp)
 first | replace c4 := kcell c4 ho (by omega) (by simp) | replace c4 := kwr c4 ho (by omega) (by simp)
 first | replace w6 := kcell w6 ho (by omega) (by simp) | replace w6 := kwr w6 ho (by omega) (by simp)
 first | replace c6 := kcell c6 ho (by omega) (by simp) | replace c6 := kwr c6 ho (by omega) (by simp)
 first | replace m0 := kcell m0 ho (by omega) (by simp) | replace m0 := kwr m0 ho (by omega) (by simp)
 first | replace m1 := kcell m1 ho (by omega) (by simp) | replace m1 := kwr m1 ho (by omega) (by simp)
 exact ⟨rfl, rfl, hi, by rw [tt _ (by simp)]; exact t1, by rw [tt _ (by simp)]; exact t4, by rw [tt _ (by simp)]; exact t6, by rw [tt _ (by simp)]; exact t7, by rw [tt _ (by simp)]; exact t8, by rw [tt _ (by simp)]; exact t11, by rw [tt _ (by simp)]; exact t26, by rw [tt _ (by simp)]; exact t27, q28,
  oo.trans ho (fun _ h => h) (fun _ h => by cases h), ⟨nx.1, by omega⟩, w4, c4, w6, c6, m0, m1, gr.of_get h1 (fun b hb => ho.2 b (gr.base hb).2 (by simp)),
  by rw [ex, List.take_add_one, hx]; simp [gs, hk], nz, fun y hy => ⟨(ps y hy).1.only ho (fun _ _ => by simp), (ps y hy).2⟩⟩
theorem CI.put {h0 : H} {b8 : Nat} {s : AV} {X : List (Gn × AV)} {m : Nat} {is : Bool} {mod : Rv} {n : Nat} {ds : List Nat} {tm tm' : T AV} {h h' : H} {i : Nat} {X' : List (Gn × AV)} {ov ov' pv : AV} {x : Gn × AV} {g' : Gn} {bn : Nat} (hI : CI h0 b8 s X m is mod n ds tm h i X' ov) (hx : X[i]? = some x)
  (hk : compG is mod m x.1 = some g') (hnx : h.nx ≤ h'.nx) (ho : ∀ b, b < h.nx → b ≠ h0.nx + 2 → blkOf ov ≠ some b → h'.t.get b = h.t.get b) (w6' : wrAt h' (h0.nx + 2) = true) (c6' : cellAt h' (h0.nx + 2) 0 = some ov')
  (gr' : Grows 6 (b8 + 1) h' ov' (X'.length + 1) (X'.flatMap gC ++ gC (g', pv))) (hbn : blkOf ov' = some bn) (hbn2 : h.nx ≤ bn) (hsl : SliceAt h' pv g'.puts.length (rvsC g'.puts)) (hpz : g'.puts = [] → pv = .nilslice) (hpb : ∀ b, blkOf pv = some b → b8 < b ∧ b ≠ bn)
  (tt : ∀ k, k ∈ [1, 4, 6, 7, 8, 11, 26, 27] → tm'.get k = tm.get k) (q28 : tm'.get 28 = some (.int .i64 (.ofNat (i + 1)))) : CI h0 b8 s X m is mod (X.length - (i + 1)) [] tm' h' (i + 1) (X' ++ [(g', pv)]) ov' := by
 have hi : i < X.length := (List.getElem?_eq_some_iff.1 hx).1
 obtain ⟨rfl, rfl, ii, t1, t4, t6, t7, t8, t11, t26, t27, t28, oo, nx, w4, c4, w6, c6, m0, m1, gr, ex, nz, ps⟩ := hI
 have h2 := oo.1
 have hov : ∀ b, b ≤ b8 → blkOf ov ≠ some b := fun b hb q => by have := (gr.base q).1; omega
 have e4 := ho (h0.nx + 1) (by omega) (by omega) (hov _ (by omega))
 have e8 := ho b8 (by omega) (by omega) (hov _ (by omega))
 refine ⟨rfl, rfl, hi, by rw [tt _ (by simp)]; exact t1, by rw [tt _ (by simp)]; exact t4, by rw [tt _ (by simp)]; exact t6, by rw [tt _ (by simp)]; exact t7, by rw [tt _ (by simp)]; exact t8, by rw [tt _ (by simp)]; exact t11, by rw [tt _ (by simp)]; exact t26, by rw [tt _ (by simp)]; exact t27, q28,
  ⟨by omega, fun b hb hs => by rw [ho b (by omega) (by omega) (hov _ (by omega))]; exact oo.2 b hb hs⟩, ⟨nx.1, by omega⟩, by rw [wrAt_of_get e4]; exact w4, by rw [cellAt_of_get e4]; exact c4, w6', c6', by rw [cellAt_of_get e8]; exact m0, by rw [cellAt_of_get e8]; exact m1, ?_,
  ?_, fun q => by simp at q, fun y hy => ?_⟩
 ·rw [List.length_append, List.flatMap_append]
  simpa using gr'
 ·rw [List.take_add_one, hx]
  simp only [gs, Option.toList_some, List.map_append, List.map_cons, List.map_nil, List.filterMap_append]
  have ex' : X'.map (·.1) = ((X.take i).map (·.1)).filterMap (compG is mod m) := ex
  rw [ex']; simp [hk]
 ·rcases List.mem_append.1 hy with hy | hy
  ·obtain ⟨p1, p2, p3⟩ := ps y hy
   have hlt := SliceAt.blk p1
   refine ⟨?_, p2, fun b hb => ⟨(p3 b hb).1, fun q => by rw [hbn] at q; cases q; have := hlt _ hb; omega⟩⟩
   exact SliceAt.only (S := [h0.nx + 2] ++ (match blkOf ov with | some c => [c] | none => [])) ⟨hnx, fun b hb hs => ho b hb (fun q => hs (by simp [q])) (fun q => hs (by simp [q]))⟩ p1 (fun b hb hs => by
    rcases List.mem_append.1 hs with hs | hs
    ·rw [List.mem_singleton] at hs; have := (p3 b hb).1; omega
    ·cases hbo : blkOf ov with
     | none => rw [hbo] at hs; cases hs
     | some c => rw [hbo] at hs; rw [List.mem_singleton] at hs; subst hs; exact (p3 b hb).2 hbo)
  ·rw [List.mem_singleton] at hy
   subst hy
   exact ⟨hsl, hpz, fun b hb => ⟨(hpb b hb).1, fun q => by rw [hbn] at q; cases q; exact (hpb _ hb).2 rfl⟩⟩
def PostComp (p : Nat → Prop) (h : H) (L : List Gn) (m : Nat) (v : AV) (h' : H) : Prop := Only h h' [] ∧ ∃ g k, v = .tuple [g, k] ∧ GensP p h' g (compL L m) ∧ Grows 2 h.nx h' k (compK L m).length (rvsC (compK L m))
set_option maxHeartbeats 8000000 in
theorem compC (p : Nat → Prop) (h0 : H) (v : AV) (L : List Gn) (m : Nat) (hp : ∀ b, h0.nx ≤ b → p b) (hg : GensAt h0 v L) (hz : Sz 1000 L) : PushC P (.enter 31 [v, n64 m] h0) (PostComp p h0 L m) := by
 have hg0 := hg
 obtain ⟨s, X, rfl, rfl, hh, -⟩ := hg
 have hso := SliceAt.one hh.1
 have hlen := hh.1.len (P := P) u53
 have hz1 : X.length ≤ 1000:= by have := hz.1; simpa [gs] using this
 unfold n64
 refine pushC_of_codeW (fn := Tryz.f31) (c := bodyC Tryz.f31) Tryz.func31 rfl ?_
 show codeW P 31 103 none _ _ _ _ _
 refine codeW_root ?_
 refine rN ?_ (hso)
 obtain ⟨h1, hH⟩ : ∃ h1, h1 = (((h0.newCells 55 [s]).newCells 55 [.nilslice]).newCells 55 [.nilslice]) := ⟨_, rfl⟩
 have x1 : h1.nx = h0.nx + 3:= by rw [hH]; rfl
 have o1 : Only h0 h1 []:= by rw [hH]; exact (((Only.refl _ _).new _ _).new _ _).new _ _
 have c2 : cellAt h1 h0.nx 0 = some s:= by rw [hH]; exact sT
 have c4 : cellAt h1 (h0.nx + 1) 0 = some .nilslice:= by rw [hH]; exact sT
 have w4 : wrAt h1 (h0.nx + 1) = true:= by rw [hH]; exact sT
 have c6 : cellAt h1 (h0.nx + 2) 0 = some .nilslice:= by rw [hH]; exact sT
 have w6 : wrAt h1 (h0.nx + 2) = true:= by rw [hH]; exact sT
 rw [← hH]
 refine ((atC h1 _ _ m (hg0.keep o1) hz).call P).mono P ?_
 rintro v h2 ⟨rfl, o2⟩
 have x2 := o2.1
 first | replace c2 := kcell c2 o2 (by omega) (by simp) | replace c2 := kwr c2 o2 (by omega) (by simp)
 first | replace c4 := kcell c4 o2 (by omega) (by simp) | replace c4 := kwr c4 o2 (by omega) (by simp)
 first | replace w4 := kcell w4 o2 (by omega) (by simp) | replace w4 := kwr w4 o2 (by omega) (by simp)
 first | replace c6 := kcell c6 o2 (by omega) (by simp) | replace c6 := kwr c6 o2 (by omega) (by simp)
 first | replace w6 := kcell w6 o2 (by omega) (by simp) | replace w6 := kwr w6 o2 (by omega) (by simp)
 have oo2 : Only h0 h2 [] := o1.trans o2 (fun _ h => h) (fun _ h => by cases h)
 unfold PostComp compL compK
 obtain ⟨is, hi⟩ : ∃ is, is = atB (X.map (·.1)) m := ⟨_, rfl⟩
 obtain ⟨mod, hmod⟩ : ∃ mod, mod = (atK (X.map (·.1)) m).rev := ⟨_, rfl⟩
 rw [← hmod, ← hi]
 have e1 : rvA mod = .agg [.int .u64 (.ofNat mod.1), .int .u64 (.ofNat mod.2)] := rfl
 rw [e1]
 unfold n64
 have n2 : (h0.nx = h2.nx) = False:= by simp; omega
 refine rN ?_ (V hlen<|V c2<|n2)
 obtain ⟨h3, h3e⟩ : ∃ h3, h3 = (h2.newCells 31 [.int .u64 (.ofNat 0), .int .u64 (.ofNat 0)]).sts h2.nx 0 [.int .u64 (.ofNat mod.1), .int .u64 (.ofNat mod.2)] := ⟨_, rfl⟩
 rw [← h3e]
 have o3 : Only h2 h3 []:= by rw [h3e]; exact ((Only.refl _ _).new _ _).sts (.inr (Nat.le_refl _))
 have x3 : h3.nx = h2.nx + 1:= by rw [h3e]; rw [nx_sts, nx_new]
 have m0 : cellAt h3 h2.nx 0 = some (.int .u64 (.ofNat mod.1)):= by rw [h3e]; exact sT
 have m1 : cellAt h3 h2.nx 1 = some (.int .u64 (.ofNat mod.2)):= by rw [h3e]; exact sT
 first | replace c2 := kcell c2 o3 (by omega) (by simp) | replace c2 := kwr c2 o3 (by omega) (by simp)
 first | replace c4 := kcell c4 o3 (by omega) (by simp) | replace c4 := kwr c4 o3 (by omega) (by simp)
 first | replace w4 := kcell w4 o3 (by omega) (by simp) | replace w4 := kwr w4 o3 (by omega) (by simp)
 first | replace c6 := kcell c6 o3 (by omega) (by simp) | replace c6 := kwr c6 o3 (by omega) (by simp)
 first | replace w6 := kcell w6 o3 (by omega) (by simp) | replace w6 := kwr w6 o3 (by omega) (by simp)
 refine st_loop (fun n ds tm h => ∃ i X' ov, CI h0 h2.nx s X m is mod n ds tm h i X' ov) X.length rfl ⟨0, [], .nilslice, rfl, rfl, Nat.zero_le _, by exact sT, by exact sT, by exact sT, by exact sT, by exact sT, by exact sT, by exact sT, by exact sT, by exact sT,
  oo2.trans o3 (fun _ h => h) (fun _ h => by cases h), ⟨by omega, by omega⟩, w4, c4, w6, c6, m0, m1, .none, rfl, fun _ => rfl, fun x hx => by cases hx⟩ (fun n ds tm h hI => ?_)
 obtain ⟨i, X', ov, hI⟩ := hI
 have hC := hI
 obtain ⟨rfl, rfl, ii, t1, t4, t6, t7, t8, t11, t26, t27, t28, oo, nx, w4, c4, w6, c6, m0, m1, gr, ex, nz, ps⟩ := hI
 by_cases hi : i < X.length
 ·have d1 : decide (i < X.length) = true := decide_eq_true hi
  have lt1 : (i < X.length) = True:= by simp [hi]
  obtain ⟨x, hx⟩ : ∃ x, X[i]? = some x := ⟨_, List.getElem?_eq_getElem hi⟩
  have hxm : x ∈ X := List.mem_of_getElem? hx
  have hhh := hh.keep oo
  obtain ⟨bs, os, cap, rfl, hbs, _⟩ := hhh.1.place (by omega)
  obtain ⟨g0, g1, g2, g3, g4, g5⟩ := gC_at hhh.1 hx
  have hxl := (hh.2 x hxm).len (P := P) u42
  have hone := SliceAt.one (hh.2 x hxm)
  refine rN ?_ (V t1<|V t4<|V t6<|V t7<|V t8<|V t11<|V t26<|V t27<|V t28<|V d1<|V lt1<|V g0<|V g1<|V g2<|V g3<|V g4<|V g5<|V hone<|hxl)
  obtain ⟨hq, hqe⟩ : ∃ hq, hq = (((((h.newCells 107 [.int .u64 (.ofNat 0), .int .u64 (.ofNat 0), .nilslice, .int .u64 (.ofNat 0), .int .u64 (.ofNat 0), .bool false]).sts h.nx 0 (gC x)).newCells 107 [.int .u64 (.ofNat 0), .int .u64 (.ofNat 0), .nilslice, .int .u64 (.ofNat 0), .int .u64 (.ofNat 0), .bool false]).sts (h.nx + 1) 0 (gC x)).sts (h.nx + 1) 2 [.nilslice]) := ⟨_, rfl⟩
  unfold gC at hqe
  rw [← hqe]
  have oq : Only h hq []:= by rw [hqe]; exact (((((Only.refl _ _).new _ _).sts (.inr (Nat.le_refl _))).new _ _).sts (.inr (by omega))).sts (.inr (by omega))
  have xq : hq.nx = h.nx + 2:= by rw [hqe]; simp only [nx_sts, nx_new]
  have k1 : cellAt hq h.nx 1 = some (.int .u64 (.ofNat x.1.first)):= by rw [hqe]; exact sT
  have k3 : cellAt hq h.nx 3 = some (.int .u64 (.ofNat x.1.en.1)):= by rw [hqe]; exact sT
  have k5 : cellAt hq h.nx 5 = some (.bool x.1.ended):= by rw [hqe]; exact sT
  have l0 : cellAt hq (h.nx + 1) 0 = some (.int .u64 (.ofNat x.1.made)):= by rw [hqe]; exact sT
  have l1 : cellAt hq (h.nx + 1) 1 = some (.int .u64 (.ofNat x.1.first)):= by rw [hqe]; exact sT
  have l2 : cellAt hq (h.nx + 1) 2 = some .nilslice:= by rw [hqe]; exact sT
  have l3 : cellAt hq (h.nx + 1) 3 = some (.int .u64 (.ofNat x.1.en.1)):= by rw [hqe]; exact sT
  have l4 : cellAt hq (h.nx + 1) 4 = some (.int .u64 (.ofNat x.1.en.2)):= by rw [hqe]; exact sT
  have l5 : cellAt hq (h.nx + 1) 5 = some (.bool x.1.ended):= by rw [hqe]; exact sT
  have wl : wrAt hq (h.nx + 1) = true:= by rw [hqe]; exact sT
  have hxz : x.1.puts.length ≤ 1000 := hz.2 x.1 (List.mem_map.2 ⟨x, hxm, rfl⟩)
  refine st_loop (fun n ds tm' h' => ∃ j pv, DI h tm x m is mod n ds tm' h' j pv) x.1.puts.length rfl ⟨0, .nilslice, rfl, rfl, Nat.zero_le _, ?_, by exact sT, by exact sT, by exact sT, by exact sT, by exact sT, oq, by omega, k1, k3, k5, wl, l0, by rw [l1]; rfl, l2, l3, l4, l5, .none, fun _ => rfl⟩ (fun n ds tm1 hc hI => ?_)
  ·intro k hk
   simp only [List.mem_cons, List.mem_nil_iff, or_false] at hk
   rcases hk with rfl | rfl | rfl | rfl | rfl | rfl | rfl | rfl | rfl <;> exact sT
  clear l0 l1 l2 l3 l4 l5 wl k1 k3 k5
  obtain ⟨j, pv, hI⟩ := hI
  have hI0 := hI
  obtain ⟨rfl, rfl, jl, tt, q13, q14, q35, q36, q37, oc, nxc, k1, k3, k5, wl, l0, l1, l2, l3, l4, l5, gr2, nz2⟩ := hI
  have q1 : tm1.get 1 = some (.int .u64 (.ofNat m)):= by rw [tt _ (by simp)]; exact t1
  have q4 : tm1.get 4 = some (.ptr (h0.nx + 1) 0):= by rw [tt _ (by simp)]; exact t4
  have q6 : tm1.get 6 = some (.ptr (h0.nx + 2) 0):= by rw [tt _ (by simp)]; exact t6
  have q7 : tm1.get 7 = some .nilslice:= by rw [tt _ (by simp)]; exact t7
  have q8 : tm1.get 8 = some (.ptr h2.nx 0):= by rw [tt _ (by simp)]; exact t8
  have q11 : tm1.get 11 = some (.bool is):= by rw [tt _ (by simp)]; exact t11
  have q26 : tm1.get 26 = some (.slice bs os X.length cap):= by rw [tt _ (by simp)]; exact t26
  have q27 : tm1.get 27 = some (.int .i64 (.ofNat X.length)):= by rw [tt _ (by simp)]; exact t27
  have q28 : tm1.get 28 = some (.int .i64 (.ofNat i)):= by rw [tt _ (by simp)]; exact t28
  have M0 := m0
  have M1 := m1
  first | replace M0 := kcell M0 oc (by omega) (by simp) | replace M0 := kwr M0 oc (by omega) (by simp)
  first | replace M1 := kcell M1 oc (by omega) (by simp) | replace M1 := kwr M1 oc (by omega) (by simp)
  by_cases hj : j < x.1.puts.length
  ·have d2 : decide (j < x.1.puts.length) = true := decide_eq_true hj
   have lt2 : (j < x.1.puts.length) = True:= by simp [hj]
   obtain ⟨r, hr⟩ : ∃ r, x.1.puts[j]? = some r := ⟨_, List.getElem?_eq_getElem hj⟩
   have hsl := (hhh.2 x hxm).only oc (fun _ _ => by simp)
   obtain ⟨bp, op, cap2, hx2, hbp, _⟩ := hsl.place (by omega)
   rw [hx2] at hsl q35
   obtain ⟨r0, r1⟩ := rvC_at hsl hr
   have w2 : wrapF .i64 (Int.ofNat j + Int.ofNat 1) = Int.ofNat (j + 1) := i64_add (by omega)
   have nb : (h2.nx = hc.nx) = False:= by simp; omega
   have hlen2 := gr2.len (P := P) u42
   have nb1 : (h.nx = hc.nx) = False:= by simp; omega
   have nb2 : (h.nx + 1 = hc.nx) = False:= by simp; omega
   have nb3 : (hc.nx = h.nx) = False:= by simp; omega
   have nb4 : (hc.nx = h.nx + 1) = False:= by simp; omega
   have w1 : wrapF .u64 (Int.ofNat j) = Int.ofNat j := u64_nat (by omega)
   have wrD : ∀ l l', wrAt ((hc.newCells 31 l).sts hc.nx 0 l') (h.nx + 1) = true := fun l l' => by rw [wrAt_sts, wrAt_new, if_neg (by omega)]; exact wl
   cases qa : decide (r.1 ≤ m) with
   | true =>
    have qa' : decide (m < r.1) = false := decide_eq_false (by have := of_decide_eq_true qa; omega)
    rcases Bool.eq_false_or_eq_true is with his | his
    ·rw [his] at q11
     cases qm : (decide (r.1 = mod.1) && decide (r.2 = mod.2)) with
     | true =>
      have hrm : r = mod := by
       simp only [Bool.and_eq_true, decide_eq_true_eq] at qm
       exact Prod.ext qm.1 qm.2
      have hkr : keepR is mod m r = true:= by unfold keepR; rw [qa', his, hrm]; simp
      cases hle : leftPuts is mod m x.1 j with
      | nil =>
       have hlz : decide ((leftPuts is mod m x.1 j).length = 0) = true:= by rw [hle]; rfl
       repeat' (first | ((with_reducible refine st1 ?_); (conv => whnf); (with_reducible refine ⟨?_⟩)) | ((with_reducible refine retW_intro rfl ?_); (conv => arg 2; whnf)) | ((with_reducible first | refine iB ?_ ?_ | refine gWt ?_ ?_ | refine gWf ?_ ?_) <;> intro hb <;> (try simp only [hb])) | (simp only [B, F, reduceLT, reduceLeDiff, reduceEqDiff, reduceAdd, reduceMul, reduceSub, ↓reduceIte, eq_self, qa, qm, Bool.not_true, Bool.not_false, q1, q8, q11, q13, q14, q35, q36, q37, d2, lt2, r0, r1, M0, M1, nb, hlen2, q13, q14, k1, l0, l1, l2, l3, l4, l5, hlz, nb, nb1, nb2, nb3, nb4, wrAt_new, wrAt_sts, cellAt_sts (wrD _ _), put_sts, wl, u64_mod, w1]))
       obtain ⟨hd, hde⟩ : ∃ hd, hd = (((hc.newCells 31 [.int .u64 (.ofNat 0), .int .u64 (.ofNat 0)]).sts hc.nx 0 [.int .u64 (.ofNat r.1), .int .u64 (.ofNat r.2)]).sts (h.nx + 1) 1 [.int .u64 (.ofNat ((x.1.first + j) % M64))]).newCells 31 [.int .u64 (.ofNat r.1), .int .u64 (.ofNat r.2)] := ⟨_, rfl⟩
       rw [← hde]
       have xd : hd.nx = hc.nx + 2:= by rw [hde]; simp only [nx_sts, nx_new]
       have gd : ∀ b, b < hc.nx → b ≠ h.nx + 1 → hd.t.get b = hc.t.get b := fun b hb hne => by
        rw [hde, get_new _ _ _ (by simp only [nx_sts, nx_new]; omega), get_sts _ _ _ _ hne, get_sts _ _ _ _ (by omega), get_new _ _ _ (by omega)]
       have wd : wrAt hd (h.nx + 1) = true:= by rw [hde, wrAt_new, if_neg (by simp only [nx_sts, nx_new]; omega), wrAt_sts]; exact wrD _ _
       have cd : ∀ k, cellAt hd (h.nx + 1) k = if k = 1 then some (.int .u64 (.ofNat ((x.1.first + j) % M64))) else cellAt hc (h.nx + 1) k := fun k => by
        rw [hde, cellAt_new, if_neg (by simp only [nx_sts, nx_new]; omega), cellAt_sts (wrD _ _)]
        by_cases q : k = 1
        ·subst q; rw [if_pos ⟨rfl, Nat.le_refl _, by simp⟩, if_pos rfl]; rfl
        ·rw [if_neg (by simp only [List.length_cons, List.length_nil]; omega), if_neg q, cellAt_of_get (get_sts _ _ _ _ (by omega)), cellAt_of_get (get_new _ _ _ (by omega))]
       refine exW_grows (base := h.nx + 2) (h := hd) (gr2.of_get (by omega) (fun b hb => by have := gr2.base hb; exact gd b (by omega) (by omega))) (by omega) (by omega) (by omega) rfl (by have := leftPuts_len is mod m x.1 j; omega) ?_
       intro v' h4 hg4 x4 old4 blk4
       rw [rvsC_snoc] at hg4
       have hpv : blkOf pv ≠ some (h.nx + 1) := fun q => by have := (gr2.base q).1; omega
       have w4' : wrAt h4 (h.nx + 1) = true:= by rw [wrAt_of_get (old4 _ (by omega) hpv)]; exact wd
       have c4' : ∀ k, cellAt h4 (h.nx + 1) k = cellAt hd (h.nx + 1) k := cellAt_of_get (old4 _ (by omega) hpv)
       have z2 : cellAt h4 (h.nx + 1) 2 = some pv:= by rw [c4', cd, if_neg (by omega)]; exact l2
       have hcv := hg4.cells
       have hov := hg4.one
       refine rN ?_ (V q14<|V q37<|V @put_sts<|V w4'<|V z2<|V hcv<|V hov<|w2)
       refine ⟨x.1.puts.length - (j + 1), by omega, j + 1, v', hI0.put hr hkr (by rw [nx_sts]; omega) (fun b hb hne hm => by rw [get_sts _ _ _ _ hne, old4 b (by omega) hm, gd b hb hne]) (by rw [wrAt_sts]; exact w4') (fun k n1 n2 => ?_) ?_ ?_
        (hg4.of_get (by rw [nx_sts]; exact Nat.le_refl _) (fun b hb => get_sts _ _ _ _ (by rw [blk4] at hb; cases hb; omega))) ?_ (by exact sT)⟩
       ·rw [cellAt_sts w4', if_neg (by simp only [List.length_cons, List.length_nil]; omega), c4', cd, if_neg n1]
       ·rw [cellAt_sts w4', if_neg (by simp only [List.length_cons, List.length_nil]; omega), c4', cd]; rw [if_pos rfl, leftFirst_keep0 hr hkr hle]
       ·rw [cellAt_sts w4', if_pos ⟨rfl, Nat.le_refl _, by simp⟩]; rfl
       ·intro k hk
        simp only [List.mem_cons, List.mem_nil_iff, or_false] at hk
        rcases hk with rfl | rfl | rfl | rfl | rfl | rfl | rfl | rfl | rfl | rfl | rfl | rfl | rfl <;> simp only [B, F, reduceLT, reduceLeDiff, reduceEqDiff, reduceAdd, reduceMul, reduceSub, ↓reduceIte, eq_self, q1, q4, q6, q7, q8, q11, q26, q27, q28, q13, q14, q35, q36]
      | cons ra rl =>
       have hlz : decide ((leftPuts is mod m x.1 j).length = 0) = false := decide_eq_false (by rw [hle]; simp)
       repeat' (first | ((with_reducible refine st1 ?_); (conv => whnf); (with_reducible refine ⟨?_⟩)) | ((with_reducible refine retW_intro rfl ?_); (conv => arg 2; whnf)) | ((with_reducible first | refine iB ?_ ?_ | refine gWt ?_ ?_ | refine gWf ?_ ?_) <;> intro hb <;> (try simp only [hb])) | (simp only [B, F, reduceLT, reduceLeDiff, reduceEqDiff, reduceAdd, reduceMul, reduceSub, ↓reduceIte, eq_self, qa, qm, Bool.not_true, Bool.not_false, q1, q8, q11, q13, q14, q35, q36, q37, d2, lt2, r0, r1, M0, M1, nb, hlen2, q13, q14, k1, l0, l1, l2, l3, l4, l5, hlz, nb, nb1, nb2, nb3, nb4, wrAt_new, wrAt_sts]))
       obtain ⟨hd, hde⟩ : ∃ hd, hd = ((hc.newCells 31 [.int .u64 (.ofNat 0), .int .u64 (.ofNat 0)]).sts hc.nx 0 [.int .u64 (.ofNat r.1), .int .u64 (.ofNat r.2)]).newCells 31 [.int .u64 (.ofNat r.1), .int .u64 (.ofNat r.2)] := ⟨_, rfl⟩
       rw [← hde]
       have xd : hd.nx = hc.nx + 2:= by rw [hde]; simp only [nx_sts, nx_new]
       have gd : ∀ b, b < hc.nx → b ≠ h.nx + 1 → hd.t.get b = hc.t.get b := fun b hb hne => by
        rw [hde, get_new _ _ _ (by simp only [nx_sts, nx_new]; omega), get_sts _ _ _ _ (by omega), get_new _ _ _ (by omega)]
       have cd : ∀ k, cellAt hd (h.nx + 1) k = cellAt hc (h.nx + 1) k := fun k => by
        rw [hde, cellAt_new, if_neg (by simp only [nx_sts, nx_new]; omega), cellAt_of_get (get_sts _ _ _ _ (by omega)), cellAt_of_get (get_new _ _ _ (by omega))]
       have wd : wrAt hd (h.nx + 1) = true:= by rw [hde, wrAt_new, if_neg (by simp only [nx_sts, nx_new]; omega)]; exact wrD _ _
       refine exW_grows (base := h.nx + 2) (h := hd) (gr2.of_get (by omega) (fun b hb => by have := gr2.base hb; exact gd b (by omega) (by omega))) (by omega) (by omega) (by omega) rfl (by have := leftPuts_len is mod m x.1 j; omega) ?_
       intro v' h4 hg4 x4 old4 blk4
       rw [rvsC_snoc] at hg4
       have hpv : blkOf pv ≠ some (h.nx + 1) := fun q => by have := (gr2.base q).1; omega
       have w4' : wrAt h4 (h.nx + 1) = true:= by rw [wrAt_of_get (old4 _ (by omega) hpv)]; exact wd
       have c4' : ∀ k, cellAt h4 (h.nx + 1) k = cellAt hd (h.nx + 1) k := cellAt_of_get (old4 _ (by omega) hpv)
       have z2 : cellAt h4 (h.nx + 1) 2 = some pv:= by rw [c4', cd]; exact l2
       have hcv := hg4.cells
       have hov := hg4.one
       refine rN ?_ (V q14<|V q37<|V @put_sts<|V w4'<|V z2<|V hcv<|V hov<|w2)
       refine ⟨x.1.puts.length - (j + 1), by omega, j + 1, v', hI0.put hr hkr (by rw [nx_sts]; omega) (fun b hb hne hm => by rw [get_sts _ _ _ _ hne, old4 b (by omega) hm, gd b hb hne]) (by rw [wrAt_sts]; exact w4') (fun k n1 n2 => ?_) ?_ ?_
        (hg4.of_get (by rw [nx_sts]; exact Nat.le_refl _) (fun b hb => get_sts _ _ _ _ (by rw [blk4] at hb; cases hb; omega))) ?_ (by exact sT)⟩
       ·rw [cellAt_sts w4', if_neg (by simp only [List.length_cons, List.length_nil]; omega), c4', cd]
       ·rw [cellAt_sts w4', if_neg (by simp only [List.length_cons, List.length_nil]; omega), c4', cd]; rw [leftFirst_keep1 hr hkr (by rw [hle]; simp)]; exact l1
       ·rw [cellAt_sts w4', if_pos ⟨rfl, Nat.le_refl _, by simp⟩]; rfl
       ·intro k hk
        simp only [List.mem_cons, List.mem_nil_iff, or_false] at hk
        rcases hk with rfl | rfl | rfl | rfl | rfl | rfl | rfl | rfl | rfl | rfl | rfl | rfl | rfl <;> simp only [B, F, reduceLT, reduceLeDiff, reduceEqDiff, reduceAdd, reduceMul, reduceSub, ↓reduceIte, eq_self, q1, q4, q6, q7, q8, q11, q26, q27, q28, q13, q14, q35, q36]
     | false =>
      have hkr : keepR is mod m r = false := by
       unfold keepR; rw [qa', his, Bool.false_or, Bool.true_and, decide_eq_false]
       rintro rfl
       simp at qm
      refine rN ?_ (V qa<|V qm<|V @Bool.not_true<|V @Bool.not_false<|V q1<|V q8<|V q11<|V q13<|V q14<|V q35<|V q36<|V q37<|V d2<|V lt2<|V r0<|V r1<|V M0<|V M1<|nb)
      refine ⟨x.1.puts.length - (j + 1), by omega, j + 1, pv, hI0.skip ((((Only.refl _ _).new _ _).sts (.inr (Nat.le_refl _)))) hr hkr ?_ (by simp only [B, F, reduceLT, reduceLeDiff, reduceEqDiff, reduceAdd, reduceMul, reduceSub, ↓reduceIte, eq_self, q37, w2])⟩
      intro k hk
      simp only [List.mem_cons, List.mem_nil_iff, or_false] at hk
      rcases hk with rfl | rfl | rfl | rfl | rfl | rfl | rfl | rfl | rfl | rfl | rfl | rfl | rfl <;> simp only [B, F, reduceLT, reduceLeDiff, reduceEqDiff, reduceAdd, reduceMul, reduceSub, ↓reduceIte, eq_self, q1, q4, q6, q7, q8, q11, q26, q27, q28, q13, q14, q35, q36]
    ·rw [his] at q11
     have hkr : keepR is mod m r = false:= by unfold keepR; rw [qa', his]; rfl
     refine rN ?_ (V q1<|V q8<|V q11<|V q13<|V q14<|V q35<|V q36<|V q37<|V d2<|V lt2<|V r0<|V r1<|V qa<|w2)
     refine ⟨x.1.puts.length - (j + 1), by omega, j + 1, pv, hI0.skip ((((Only.refl _ _).new _ _).sts (.inr (Nat.le_refl _)))) hr hkr ?_ (by simp only [B, F, reduceLT, reduceLeDiff, reduceEqDiff, reduceAdd, reduceMul, reduceSub, ↓reduceIte, eq_self, q37, w2])⟩
     intro k hk
     simp only [List.mem_cons, List.mem_nil_iff, or_false] at hk
     rcases hk with rfl | rfl | rfl | rfl | rfl | rfl | rfl | rfl | rfl | rfl | rfl | rfl | rfl <;> simp only [B, F, reduceLT, reduceLeDiff, reduceEqDiff, reduceAdd, reduceMul, reduceSub, ↓reduceIte, eq_self, q1, q4, q6, q7, q8, q11, q26, q27, q28, q13, q14, q35, q36]
   | false =>
    have hkr : keepR is mod m r = true:= by unfold keepR; rw [decide_eq_true (by have := of_decide_eq_false qa; omega)]; rfl
    cases hle : leftPuts is mod m x.1 j with
    | nil =>
     have hlz : decide ((leftPuts is mod m x.1 j).length = 0) = true:= by rw [hle]; rfl
     repeat' (first | ((with_reducible refine st1 ?_); (conv => whnf); (with_reducible refine ⟨?_⟩)) | ((with_reducible refine retW_intro rfl ?_); (conv => arg 2; whnf)) | ((with_reducible first | refine iB ?_ ?_ | refine gWt ?_ ?_ | refine gWf ?_ ?_) <;> intro hb <;> (try simp only [hb])) | (simp only [B, F, reduceLT, reduceLeDiff, reduceEqDiff, reduceAdd, reduceMul, reduceSub, ↓reduceIte, eq_self, qa, q1, q8, q11, q13, q14, q35, q36, q37, d2, lt2, r0, r1, M0, M1, nb, hlen2, q13, q14, k1, l0, l1, l2, l3, l4, l5, hlz, nb, nb1, nb2, nb3, nb4, wrAt_new, wrAt_sts, cellAt_sts (wrD _ _), put_sts, wl, u64_mod, w1]))
     obtain ⟨hd, hde⟩ : ∃ hd, hd = (((hc.newCells 31 [.int .u64 (.ofNat 0), .int .u64 (.ofNat 0)]).sts hc.nx 0 [.int .u64 (.ofNat r.1), .int .u64 (.ofNat r.2)]).sts (h.nx + 1) 1 [.int .u64 (.ofNat ((x.1.first + j) % M64))]).newCells 31 [.int .u64 (.ofNat r.1), .int .u64 (.ofNat r.2)] := ⟨_, rfl⟩
     rw [← hde]
     have xd : hd.nx = hc.nx + 2:= by rw [hde]; simp only [nx_sts, nx_new]
     have gd : ∀ b, b < hc.nx → b ≠ h.nx + 1 → hd.t.get b = hc.t.get b := fun b hb hne => by
      rw [hde, get_new _ _ _ (by simp only [nx_sts, nx_new]; omega), get_sts _ _ _ _ hne, get_sts _ _ _ _ (by omega), get_new _ _ _ (by omega)]
     have wd : wrAt hd (h.nx + 1) = true:= by rw [hde, wrAt_new, if_neg (by simp only [nx_sts, nx_new]; omega), wrAt_sts]; exact wrD _ _
     have cd : ∀ k, cellAt hd (h.nx + 1) k = if k = 1 then some (.int .u64 (.ofNat ((x.1.first + j) % M64))) else cellAt hc (h.nx + 1) k := fun k => by
      rw [hde, cellAt_new, if_neg (by simp only [nx_sts, nx_new]; omega), cellAt_sts (wrD _ _)]
      by_cases q : k = 1
      ·subst q; rw [if_pos ⟨rfl, Nat.le_refl _, by simp⟩, if_pos rfl]; rfl
      ·rw [if_neg (by simp only [List.length_cons, List.length_nil]; omega), if_neg q, cellAt_of_get (get_sts _ _ _ _ (by omega)), cellAt_of_get (get_new _ _ _ (by omega))]
     refine exW_grows (base := h.nx + 2) (h := hd) (gr2.of_get (by omega) (fun b hb => by have := gr2.base hb; exact gd b (by omega) (by omega))) (by omega) (by omega) (by omega) rfl (by have := leftPuts_len is mod m x.1 j; omega) ?_
     intro v' h4 hg4 x4 old4 blk4
     rw [rvsC_snoc] at hg4
     have hpv : blkOf pv ≠ some (h.nx + 1) := fun q => by have := (gr2.base q).1; omega
     have w4' : wrAt h4 (h.nx + 1) = true:= by rw [wrAt_of_get (old4 _ (by omega) hpv)]; exact wd
     have c4' : ∀ k, cellAt h4 (h.nx + 1) k = cellAt hd (h.nx + 1) k := cellAt_of_get (old4 _ (by omega) hpv)
     have z2 : cellAt h4 (h.nx + 1) 2 = some pv:= by rw [c4', cd, if_neg (by omega)]; exact l2
     have hcv := hg4.cells
     have hov := hg4.one
     refine rN ?_ (V q14<|V q37<|V @put_sts<|V w4'<|V z2<|V hcv<|V hov<|w2)
     refine ⟨x.1.puts.length - (j + 1), by omega, j + 1, v', hI0.put hr hkr (by rw [nx_sts]; omega) (fun b hb hne hm => by rw [get_sts _ _ _ _ hne, old4 b (by omega) hm, gd b hb hne]) (by rw [wrAt_sts]; exact w4') (fun k n1 n2 => ?_) ?_ ?_
      (hg4.of_get (by rw [nx_sts]; exact Nat.le_refl _) (fun b hb => get_sts _ _ _ _ (by rw [blk4] at hb; cases hb; omega))) ?_ (by exact sT)⟩
     ·rw [cellAt_sts w4', if_neg (by simp only [List.length_cons, List.length_nil]; omega), c4', cd, if_neg n1]
     ·rw [cellAt_sts w4', if_neg (by simp only [List.length_cons, List.length_nil]; omega), c4', cd]; rw [if_pos rfl, leftFirst_keep0 hr hkr hle]
     ·rw [cellAt_sts w4', if_pos ⟨rfl, Nat.le_refl _, by simp⟩]; rfl
     ·intro k hk
      simp only [List.mem_cons, List.mem_nil_iff, or_false] at hk
      rcases hk with rfl | rfl | rfl | rfl | rfl | rfl | rfl | rfl | rfl | rfl | rfl | rfl | rfl <;> simp only [B, F, reduceLT, reduceLeDiff, reduceEqDiff, reduceAdd, reduceMul, reduceSub, ↓reduceIte, eq_self, q1, q4, q6, q7, q8, q11, q26, q27, q28, q13, q14, q35, q36]
    | cons ra rl =>
     have hlz : decide ((leftPuts is mod m x.1 j).length = 0) = false := decide_eq_false (by rw [hle]; simp)
     repeat' (first | ((with_reducible refine st1 ?_); (conv => whnf); (with_reducible refine ⟨?_⟩)) | ((with_reducible refine retW_intro rfl ?_); (conv => arg 2; whnf)) | ((with_reducible first | refine iB ?_ ?_ | refine gWt ?_ ?_ | refine gWf ?_ ?_) <;> intro hb <;> (try simp only [hb])) | (simp only [B, F, reduceLT, reduceLeDiff, reduceEqDiff, reduceAdd, reduceMul, reduceSub, ↓reduceIte, eq_self, qa, q1, q8, q11, q13, q14, q35, q36, q37, d2, lt2, r0, r1, M0, M1, nb, hlen2, q13, q14, k1, l0, l1, l2, l3, l4, l5, hlz, nb, nb1, nb2, nb3, nb4, wrAt_new, wrAt_sts]))
     obtain ⟨hd, hde⟩ : ∃ hd, hd = ((hc.newCells 31 [.int .u64 (.ofNat 0), .int .u64 (.ofNat 0)]).sts hc.nx 0 [.int .u64 (.ofNat r.1), .int .u64 (.ofNat r.2)]).newCells 31 [.int .u64 (.ofNat r.1), .int .u64 (.ofNat r.2)] := ⟨_, rfl⟩
     rw [← hde]
     have xd : hd.nx = hc.nx + 2:= by rw [hde]; simp only [nx_sts, nx_new]
     have gd : ∀ b, b < hc.nx → b ≠ h.nx + 1 → hd.t.get b = hc.t.get b := fun b hb hne => by
      rw [hde, get_new _ _ _ (by simp only [nx_sts, nx_new]; omega), get_sts _ _ _ _ (by omega), get_new _ _ _ (by omega)]
     have cd : ∀ k, cellAt hd (h.nx + 1) k = cellAt hc (h.nx + 1) k := fun k => by
      rw [hde, cellAt_new, if_neg (by simp only [nx_sts, nx_new]; omega), cellAt_of_get (get_sts _ _ _ _ (by omega)), cellAt_of_get (get_new _ _ _ (by omega))]
     have wd : wrAt hd (h.nx + 1) = true:= by rw [hde, wrAt_new, if_neg (by simp only [nx_sts, nx_new]; omega)]; exact wrD _ _
     refine exW_grows (base := h.nx + 2) (h := hd) (gr2.of_get (by omega) (fun b hb => by have := gr2.base hb; exact gd b (by omega) (by omega))) (by omega) (by omega) (by omega) rfl (by have := leftPuts_len is mod m x.1 j; omega) ?_
     intro v' h4 hg4 x4 old4 blk4
     rw [rvsC_snoc] at hg4
     have hpv : blkOf pv ≠ some (h.nx + 1) := fun q => by have := (gr2.base q).1; omega
     have w4' : wrAt h4 (h.nx + 1) = true:= by rw [wrAt_of_get (old4 _ (by omega) hpv)]; exact wd
     have c4' : ∀ k, cellAt h4 (h.nx + 1) k = cellAt hd (h.nx + 1) k := cellAt_of_get (old4 _ (by omega) hpv)
     have z2 : cellAt h4 (h.nx + 1) 2 = some pv:= by rw [c4', cd]; exact l2
     have hcv := hg4.cells
     have hov := hg4.one
     refine rN ?_ (V q14<|V q37<|V @put_sts<|V w4'<|V z2<|V hcv<|V hov<|w2)
     refine ⟨x.1.puts.length - (j + 1), by omega, j + 1, v', hI0.put hr hkr (by rw [nx_sts]; omega) (fun b hb hne hm => by rw [get_sts _ _ _ _ hne, old4 b (by omega) hm, gd b hb hne]) (by rw [wrAt_sts]; exact w4') (fun k n1 n2 => ?_) ?_ ?_
      (hg4.of_get (by rw [nx_sts]; exact Nat.le_refl _) (fun b hb => get_sts _ _ _ _ (by rw [blk4] at hb; cases hb; omega))) ?_ (by exact sT)⟩
     ·rw [cellAt_sts w4', if_neg (by simp only [List.length_cons, List.length_nil]; omega), c4', cd]
     ·rw [cellAt_sts w4', if_neg (by simp only [List.length_cons, List.length_nil]; omega), c4', cd]; rw [leftFirst_keep1 hr hkr (by rw [hle]; simp)]; exact l1
     ·rw [cellAt_sts w4', if_pos ⟨rfl, Nat.le_refl _, by simp⟩]; rfl
     ·intro k hk
      simp only [List.mem_cons, List.mem_nil_iff, or_false] at hk
      rcases hk with rfl | rfl | rfl | rfl | rfl | rfl | rfl | rfl | rfl | rfl | rfl | rfl | rfl <;> simp only [B, F, reduceLT, reduceLeDiff, reduceEqDiff, reduceAdd, reduceMul, reduceSub, ↓reduceIte, eq_self, q1, q4, q6, q7, q8, q11, q26, q27, q28, q13, q14, q35, q36]
  ·have d2 : decide (j < x.1.puts.length) = false := decide_eq_false hj
   have hje : j = x.1.puts.length:= by omega
   subst hje
   have hlen2 := gr2.len (P := P) u42
   have w2 : wrapF .i64 (Int.ofNat i + Int.ofNat 1) = Int.ofNat (i + 1) := i64_add (by omega)
   have C6 := c6
   have W6 := w6
   have x0 := oo.1
   first | replace C6 := kcell C6 oc (by omega) (by simp) | replace C6 := kwr C6 oc (by omega) (by simp)
   first | replace W6 := kcell W6 oc (by omega) (by simp) | replace W6 := kwr W6 oc (by omega) (by simp)
   have hpo := gr2.one
   have nb6 : (h0.nx + 2 = hc.nx) = False:= by simp; omega
   have hX'l : X'.length ≤ 1000 := by
    have e1 : X'.length = (gs X').length:= by unfold gs; rw [List.length_map]
    rw [e1, ex]
    refine Nat.le_trans (List.length_filterMap_le _ _) ?_
    unfold gs; rw [List.length_map, List.length_take]; omega
   cases he : x.1.ended with
   | true =>
    rw [he] at k5 l5
    cases qe : decide (x.1.en.1 ≤ m) with
    | true =>
     have hcg : compG is mod m x.1 = none:= by unfold compG; rw [he, qe]; rfl
     refine rN ?_ (V q1<|V q4<|V q6<|V q7<|V q8<|V q11<|V q13<|V q14<|V q26<|V q27<|V q28<|V q36<|V q37<|V d2<|V k3<|V k5<|V qe<|V hlen2<|V l2<|w2)
     refine ⟨X.length - (i + 1), by omega, i + 1, X', ov, hC.skip oc hx hcg ?_ (by exact sT)⟩
     intro k hk
     simp only [List.mem_cons, List.mem_nil_iff, or_false] at hk
     rcases hk with rfl | rfl | rfl | rfl | rfl | rfl | rfl | rfl <;> simp only [B, F, reduceLT, reduceLeDiff, reduceEqDiff, reduceAdd, reduceMul, reduceSub, ↓reduceIte, eq_self, q1, q4, q6, q7, q8, q11, q26, q27, t1, t4, t6, t7, t8, t11, t26, t27]
    | false =>
     cases hlz : decide (0 < (leftPuts is mod m x.1 x.1.puts.length).length) with
     | true =>
      have hcg : compG is mod m x.1 = some { x.1 with first := leftFirst is mod m x.1 x.1.puts.length, puts := leftPuts is mod m x.1 x.1.puts.length } := by
       unfold compG leftPuts
       rw [List.take_length]; rw [he, qe]; simp [he]
      refine rN ?_ (V q1<|V q4<|V q6<|V q7<|V q8<|V q11<|V q13<|V q14<|V q26<|V q27<|V q28<|V q36<|V q37<|V d2<|V k3<|V k5<|V qe<|V hlz<|V hlen2<|V l0<|V l1<|V l2<|V l3<|V l4<|V l5<|V C6<|V hpo<|nb6)
      obtain ⟨hd, hde⟩ : ∃ hd, hd = hc.newCells 107 [.int .u64 (.ofNat x.1.made), .int .u64 (.ofNat (leftFirst is mod m x.1 x.1.puts.length)), pv, .int .u64 (.ofNat x.1.en.1), .int .u64 (.ofNat x.1.en.2), .bool true] := ⟨_, rfl⟩
      rw [← hde]
      have xd : hd.nx = hc.nx + 1:= by rw [hde]; simp only [nx_new]
      have gd : ∀ b, b < hc.nx → hd.t.get b = hc.t.get b := fun b hb => by rw [hde, get_new _ _ _ (by omega)]
      refine exW_grows (base := h2.nx + 1) (h := hd) (gr.of_get (by omega) (fun b hb => by have := gr.base hb; rw [gd b (by omega)]; exact oc.2 b this.2 (by simp))) (by omega) (by omega) (by omega) rfl (by omega) ?_
      intro v' h4 hg4 x4 old4 blk4
      have hov : ∀ b, b ≤ h2.nx → blkOf ov ≠ some b := fun b hb q => by have := (gr.base q).1; omega
      have w4' : wrAt h4 (h0.nx + 2) = true:= by rw [wrAt_of_get (old4 _ (by omega) (hov _ (by omega))), wrAt_of_get (gd _ (by omega))]; exact W6
      have z2 : cellAt h4 (h0.nx + 2) 0 = some ov:= by rw [cellAt_of_get (old4 _ (by omega) (hov _ (by omega))), cellAt_of_get (gd _ (by omega))]; exact C6
      have hcv := hg4.cells
      have hov1 := hg4.one
      refine rN ?_ (V q6<|V q28<|V @put_sts<|V w4'<|V z2<|V hcv<|V hov1<|w2)
      have hpv := fun b (hb : blkOf pv = some b) => gr2.base hb
      have hovp : ∀ b, blkOf pv = some b → blkOf ov ≠ some b := fun b hb q => by have h1 := gr2.base hb; have h2 := gr.base q; omega
      have hgq := hg4.of_get (h' := h4.sts (h0.nx + 2) 0 [v']) (by rw [nx_sts]; exact Nat.le_refl _) (fun b hb => get_sts _ _ _ _ (by rw [blk4] at hb; cases hb; omega))
      refine ⟨X.length - (i + 1), by omega, i + 1, _, v', hC.put (h' := h4.sts (h0.nx + 2) 0 [v']) (pv := pv) (bn := hd.nx) hx hcg (by rw [nx_sts]; omega) (fun b hb n1 n2 => ?_) (by rw [wrAt_sts]; exact w4') ?_ (by rw [← he] at hgq; exact hgq) blk4 (by omega)
       ?_ nz2 (fun b hb => ⟨by have := hpv b hb; omega, by have := hpv b hb; omega⟩) ?_ (by exact sT)⟩
      ·rw [get_sts _ _ _ _ n1, old4 b (by omega) n2, gd b (by omega)]; exact oc.2 b hb (by simp)
      ·rw [cellAt_sts w4', if_pos ⟨rfl, Nat.le_refl _, by simp⟩]; rfl
      ·refine (gr2.of_get (h' := h4.sts (h0.nx + 2) 0 [v']) (by rw [nx_sts]; omega) (fun b hb => ?_)).slice
       have := hpv b hb
       rw [get_sts _ _ _ _ (by omega), old4 b (by omega) (hovp b hb), gd b (by omega)]
      ·intro k hk
       simp only [List.mem_cons, List.mem_nil_iff, or_false] at hk
       rcases hk with rfl | rfl | rfl | rfl | rfl | rfl | rfl | rfl <;> simp only [B, F, reduceLT, reduceLeDiff, reduceEqDiff, reduceAdd, reduceMul, reduceSub, ↓reduceIte, eq_self, q1, q4, q6, q7, q8, q11, q26, q27, t1, t4, t6, t7, t8, t11, t26, t27]
     | false =>
      have hcg : compG is mod m x.1 = some { x.1 with first := leftFirst is mod m x.1 x.1.puts.length, puts := leftPuts is mod m x.1 x.1.puts.length } := by
       unfold compG leftPuts
       rw [List.take_length]; rw [he, qe]; simp [he]
      refine rN ?_ (V q1<|V q4<|V q6<|V q7<|V q8<|V q11<|V q13<|V q14<|V q26<|V q27<|V q28<|V q36<|V q37<|V d2<|V k3<|V k5<|V qe<|V hlz<|V hlen2<|V l0<|V l1<|V l2<|V l3<|V l4<|V l5<|V C6<|V hpo<|nb6)
      obtain ⟨hd, hde⟩ : ∃ hd, hd = hc.newCells 107 [.int .u64 (.ofNat x.1.made), .int .u64 (.ofNat (leftFirst is mod m x.1 x.1.puts.length)), pv, .int .u64 (.ofNat x.1.en.1), .int .u64 (.ofNat x.1.en.2), .bool true] := ⟨_, rfl⟩
      rw [← hde]
      have xd : hd.nx = hc.nx + 1:= by rw [hde]; simp only [nx_new]
      have gd : ∀ b, b < hc.nx → hd.t.get b = hc.t.get b := fun b hb => by rw [hde, get_new _ _ _ (by omega)]
      refine exW_grows (base := h2.nx + 1) (h := hd) (gr.of_get (by omega) (fun b hb => by have := gr.base hb; rw [gd b (by omega)]; exact oc.2 b this.2 (by simp))) (by omega) (by omega) (by omega) rfl (by omega) ?_
      intro v' h4 hg4 x4 old4 blk4
      have hov : ∀ b, b ≤ h2.nx → blkOf ov ≠ some b := fun b hb q => by have := (gr.base q).1; omega
      have w4' : wrAt h4 (h0.nx + 2) = true:= by rw [wrAt_of_get (old4 _ (by omega) (hov _ (by omega))), wrAt_of_get (gd _ (by omega))]; exact W6
      have z2 : cellAt h4 (h0.nx + 2) 0 = some ov:= by rw [cellAt_of_get (old4 _ (by omega) (hov _ (by omega))), cellAt_of_get (gd _ (by omega))]; exact C6
      have hcv := hg4.cells
      have hov1 := hg4.one
      refine rN ?_ (V q6<|V q28<|V @put_sts<|V w4'<|V z2<|V hcv<|V hov1<|w2)
      have hpv := fun b (hb : blkOf pv = some b) => gr2.base hb
      have hovp : ∀ b, blkOf pv = some b → blkOf ov ≠ some b := fun b hb q => by have h1 := gr2.base hb; have h2 := gr.base q; omega
      have hgq := hg4.of_get (h' := h4.sts (h0.nx + 2) 0 [v']) (by rw [nx_sts]; exact Nat.le_refl _) (fun b hb => get_sts _ _ _ _ (by rw [blk4] at hb; cases hb; omega))
      refine ⟨X.length - (i + 1), by omega, i + 1, _, v', hC.put (h' := h4.sts (h0.nx + 2) 0 [v']) (pv := pv) (bn := hd.nx) hx hcg (by rw [nx_sts]; omega) (fun b hb n1 n2 => ?_) (by rw [wrAt_sts]; exact w4') ?_ (by rw [← he] at hgq; exact hgq) blk4 (by omega)
       ?_ nz2 (fun b hb => ⟨by have := hpv b hb; omega, by have := hpv b hb; omega⟩) ?_ (by exact sT)⟩
      ·rw [get_sts _ _ _ _ n1, old4 b (by omega) n2, gd b (by omega)]; exact oc.2 b hb (by simp)
      ·rw [cellAt_sts w4', if_pos ⟨rfl, Nat.le_refl _, by simp⟩]; rfl
      ·refine (gr2.of_get (h' := h4.sts (h0.nx + 2) 0 [v']) (by rw [nx_sts]; omega) (fun b hb => ?_)).slice
       have := hpv b hb
       rw [get_sts _ _ _ _ (by omega), old4 b (by omega) (hovp b hb), gd b (by omega)]
      ·intro k hk
       simp only [List.mem_cons, List.mem_nil_iff, or_false] at hk
       rcases hk with rfl | rfl | rfl | rfl | rfl | rfl | rfl | rfl <;> simp only [B, F, reduceLT, reduceLeDiff, reduceEqDiff, reduceAdd, reduceMul, reduceSub, ↓reduceIte, eq_self, q1, q4, q6, q7, q8, q11, q26, q27, t1, t4, t6, t7, t8, t11, t26, t27]
   | false =>
    rw [he] at k5 l5
    cases hle : leftPuts is mod m x.1 x.1.puts.length with
    | nil =>
     have hlz : decide (0 < (leftPuts is mod m x.1 x.1.puts.length).length) = false:= by rw [hle]; rfl
     have hcg : compG is mod m x.1 = none := by
      unfold leftPuts at hle
      rw [List.take_length] at hle
      unfold compG; rw [he, hle]; simp [he]
     refine rN ?_ (V q1<|V q4<|V q6<|V q7<|V q8<|V q11<|V q13<|V q14<|V q26<|V q27<|V q28<|V q36<|V q37<|V d2<|V k3<|V k5<|V hlz<|V hlen2<|V l2<|w2)
     refine ⟨X.length - (i + 1), by omega, i + 1, X', ov, hC.skip oc hx hcg ?_ (by exact sT)⟩
     intro k hk
     simp only [List.mem_cons, List.mem_nil_iff, or_false] at hk
     rcases hk with rfl | rfl | rfl | rfl | rfl | rfl | rfl | rfl <;> simp only [B, F, reduceLT, reduceLeDiff, reduceEqDiff, reduceAdd, reduceMul, reduceSub, ↓reduceIte, eq_self, q1, q4, q6, q7, q8, q11, q26, q27, t1, t4, t6, t7, t8, t11, t26, t27]
    | cons ra rl =>
     have hlz : decide (0 < (leftPuts is mod m x.1 x.1.puts.length).length) = true:= by rw [hle]; simp
     have hcg : compG is mod m x.1 = some { x.1 with first := leftFirst is mod m x.1 x.1.puts.length, puts := leftPuts is mod m x.1 x.1.puts.length } := by
      unfold compG leftPuts
      rw [List.take_length]; unfold leftPuts at hle; rw [List.take_length] at hle; rw [he, hle]; simp [he]
     refine rN ?_ (V q1<|V q4<|V q6<|V q7<|V q8<|V q11<|V q13<|V q14<|V q26<|V q27<|V q28<|V q36<|V q37<|V d2<|V k3<|V k5<|V hlz<|V hlen2<|V l0<|V l1<|V l2<|V l3<|V l4<|V l5<|V C6<|V hpo<|nb6)
     obtain ⟨hd, hde⟩ : ∃ hd, hd = hc.newCells 107 [.int .u64 (.ofNat x.1.made), .int .u64 (.ofNat (leftFirst is mod m x.1 x.1.puts.length)), pv, .int .u64 (.ofNat x.1.en.1), .int .u64 (.ofNat x.1.en.2), .bool false] := ⟨_, rfl⟩
     rw [← hde]
     have xd : hd.nx = hc.nx + 1:= by rw [hde]; simp only [nx_new]
     have gd : ∀ b, b < hc.nx → hd.t.get b = hc.t.get b := fun b hb => by rw [hde, get_new _ _ _ (by omega)]
     refine exW_grows (base := h2.nx + 1) (h := hd) (gr.of_get (by omega) (fun b hb => by have := gr.base hb; rw [gd b (by omega)]; exact oc.2 b this.2 (by simp))) (by omega) (by omega) (by omega) rfl (by omega) ?_
     intro v' h4 hg4 x4 old4 blk4
     have hov : ∀ b, b ≤ h2.nx → blkOf ov ≠ some b := fun b hb q => by have := (gr.base q).1; omega
     have w4' : wrAt h4 (h0.nx + 2) = true:= by rw [wrAt_of_get (old4 _ (by omega) (hov _ (by omega))), wrAt_of_get (gd _ (by omega))]; exact W6
     have z2 : cellAt h4 (h0.nx + 2) 0 = some ov:= by rw [cellAt_of_get (old4 _ (by omega) (hov _ (by omega))), cellAt_of_get (gd _ (by omega))]; exact C6
     have hcv := hg4.cells
     have hov1 := hg4.one
     refine rN ?_ (V q6<|V q28<|V @put_sts<|V w4'<|V z2<|V hcv<|V hov1<|w2)
     have hpv := fun b (hb : blkOf pv = some b) => gr2.base hb
     have hovp : ∀ b, blkOf pv = some b → blkOf ov ≠ some b := fun b hb q => by have h1 := gr2.base hb; have h2 := gr.base q; omega
     have hgq := hg4.of_get (h' := h4.sts (h0.nx + 2) 0 [v']) (by rw [nx_sts]; exact Nat.le_refl _) (fun b hb => get_sts _ _ _ _ (by rw [blk4] at hb; cases hb; omega))
     refine ⟨X.length - (i + 1), by omega, i + 1, _, v', hC.put (h' := h4.sts (h0.nx + 2) 0 [v']) (pv := pv) (bn := hd.nx) hx hcg (by rw [nx_sts]; omega) (fun b hb n1 n2 => ?_) (by rw [wrAt_sts]; exact w4') ?_ (by rw [← he] at hgq; exact hgq) blk4 (by omega)
      ?_ nz2 (fun b hb => ⟨by have := hpv b hb; omega, by have := hpv b hb; omega⟩) ?_ (by exact sT)⟩
     ·rw [get_sts _ _ _ _ n1, old4 b (by omega) n2, gd b (by omega)]; exact oc.2 b hb (by simp)
     ·rw [cellAt_sts w4', if_pos ⟨rfl, Nat.le_refl _, by simp⟩]; rfl
     ·refine (gr2.of_get (h' := h4.sts (h0.nx + 2) 0 [v']) (by rw [nx_sts]; omega) (fun b hb => ?_)).slice
      have := hpv b hb
      rw [get_sts _ _ _ _ (by omega), old4 b (by omega) (hovp b hb), gd b (by omega)]
     ·intro k hk
      simp only [List.mem_cons, List.mem_nil_iff, or_false] at hk
      rcases hk with rfl | rfl | rfl | rfl | rfl | rfl | rfl | rfl <;> simp only [B, F, reduceLT, reduceLeDiff, reduceEqDiff, reduceAdd, reduceMul, reduceSub, ↓reduceIte, eq_self, q1, q4, q6, q7, q8, q11, q26, q27, t1, t4, t6, t7, t8, t11, t26, t27]
 ·have d1 : decide (i < X.length) = false := decide_eq_false hi
  have hie : i = X.length:= by omega
  subst hie
  rw [List.take_length] at ex
  have hfin : ∀ h' : H, Only h h' [] → Only h0 (h'.sts (h0.nx + 1) 0 [ov]) [] ∧ GensP p (h'.sts (h0.nx + 1) 0 [ov]) (.agg [ov]) ((gs X).filterMap (compG is mod m)) := fun h' oh => by
   have e1 : Only h0 (h'.sts (h0.nx + 1) 0 [ov]) [] := (oo.trans oh (fun _ h => h) (fun _ h => by cases h)).sts (.inr (by omega))
   have e2 : Only h (h'.sts (h0.nx + 1) 0 [ov]) [h0.nx + 1] := by
    have := oh.1
    exact ⟨by rw [nx_sts]; exact this, fun b hb hs => by rw [List.mem_singleton] at hs; rw [get_sts _ _ _ _ hs]; exact oh.2 b hb (by simp)⟩
   refine ⟨e1, ov, X', rfl, ex, ⟨gr.slice.only e2 (fun b hb hs => ?_), fun x hx => (ps x hx).1.only e2 (fun b hb hs => ?_)⟩, ⟨nz, fun Y x e q => (ps x (by rw [e]; simp)).2.1 q⟩, fun b hb => hp b ?_, fun x hx b hb => hp b ?_⟩
   ·rw [List.mem_singleton] at hs; have := (gr.base hb).1; omega
   ·rw [List.mem_singleton] at hs; have := ((ps x hx).2.2 b hb).1; omega
   ·have := (gr.base hb).1; omega
   ·have := ((ps x hx).2.2 b hb).1; omega
  have hov := gr.one
  have hoc := gr.cells
  have nb6 : (h0.nx + 2 = h.nx) = False:= by simp; omega
  rcases Bool.eq_false_or_eq_true is with his | his
  ·rw [his] at t11
   refine rN ?_ (V t1<|V t4<|V t6<|V t7<|V t8<|V t11<|V t26<|V t27<|V t28<|V d1<|V m0<|V m1<|V c6<|V w4<|V c4<|V hov<|hoc)
   refine exW_grows (base := h.nx) (h := h.newCells 31 [.int .u64 (.ofNat mod.1), .int .u64 (.ofNat mod.2)]) .none (by rw [nx_new]; omega) (by omega) (by omega) rfl (by omega) ?_
   intro kv h4 hg4 x4 old4 blk4
   rw [nx_new] at x4
   have o4 : Only h h4 [] := ⟨by omega, fun b hb _ => by rw [old4 b (by rw [nx_new]; omega) (by intro q; cases q), get_new _ _ _ (by omega)]⟩
   have x0 := oo.1
   have hko := hg4.one
   have hkc := hg4.cells
   first | replace w4 := kcell w4 o4 (by omega) (by simp) | replace w4 := kwr w4 o4 (by omega) (by simp)
   first | replace c4 := kcell c4 o4 (by omega) (by simp) | replace c4 := kwr c4 o4 (by omega) (by simp)
   first | replace c6 := kcell c6 o4 (by omega) (by simp) | replace c6 := kwr c6 o4 (by omega) (by simp)
   repeat' (first | ((with_reducible refine st1 ?_); (conv => whnf); (with_reducible refine ⟨?_⟩)) | ((with_reducible refine retW_intro rfl ?_); (conv => arg 2; whnf)) | ((with_reducible first | refine iB ?_ ?_ | refine gWt ?_ ?_ | refine gWf ?_ ?_) <;> intro hb <;> (try simp only [hb])) | (simp only [B, F, reduceLT, reduceLeDiff, reduceEqDiff, reduceAdd, reduceMul, reduceSub, ↓reduceIte, eq_self, t4, t6, t7, put_sts, w4, c4, c6, hov, hoc, cellAt_sts w4, hko, hkc]))
   obtain ⟨f1, f2⟩ := hfin h4 o4
   rw [his] at f2 ⊢; rw [if_pos rfl]
   refine ⟨f1, _, _, rfl, f2, ?_⟩
   have q := hg4.of_get (h' := h4.sts (h0.nx + 1) 0 [ov]) (by rw [nx_sts]; exact Nat.le_refl _) (fun b hb => get_sts _ _ _ _ (by rw [blk4] at hb; cases hb; rw [nx_new]; omega))
   exact q.weak (by omega)
  ·rw [his] at t11
   repeat' (first | ((with_reducible refine st1 ?_); (conv => whnf); (with_reducible refine ⟨?_⟩)) | ((with_reducible refine retW_intro rfl ?_); (conv => arg 2; whnf)) | ((with_reducible first | refine iB ?_ ?_ | refine gWt ?_ ?_ | refine gWf ?_ ?_) <;> intro hb <;> (try simp only [hb])) | (simp only [B, F, reduceLT, reduceLeDiff, reduceEqDiff, reduceAdd, reduceMul, reduceSub, ↓reduceIte, eq_self, t1, t4, t6, t7, t8, t11, t26, t27, t28, d1, m0, m1, c6, put_sts, w4, c4, hov, hoc, cellAt_sts w4]))
   obtain ⟨f1, f2⟩ := hfin h (Only.refl _ _)
   rw [his] at f2 ⊢; rw [if_neg (by simp)]
   exact ⟨f1, _, _, rfl, f2, .none⟩
end
end Go.Proofs.YtlkngpckibidlaaGreat.W

namespace Go.Proofs.YtlkngpckibidlaaGreat.W
open Go Go.AX
noncomputable section
def opnA (A : List Ch) : Bool := match A.getLast? with | some c => !c.tomb | none => false
def fitA (A : List Ch) (r : Rv) : Bool := decide (0 < r.1) && (match A.getLast? with | some c => above r c.rev | none => true)
def nextA (A : List Ch) (r : Rv) (made nth : Nat) : Ch :=
 match A.getLast? with
 | some c => if c.tomb then ⟨r, made, nth % M64, false⟩ else ⟨r, c.made, (c.nth + 1) % M64, false⟩
 | none => ⟨r, made, nth % M64, false⟩
def restA (A : List Ch) (r : Rv) (made nth : Nat) : Bool :=
  fitA A r && !decide (made = 0) && !decide (r.1 < made) && !decide (nth = 0) &&
  (match A.getLast? with
   | none => true
   | some c => if c.tomb then decide (c.rev.1 < made) else decide (made = c.made) && decide (nth = (c.nth + 1) % M64))
structure WF (L : List Gn) : Prop where
 inner : ∀ Y g Z, L = Y ++ g :: Z → Z ≠ [] → g.ended = true
 outer : Opq L
theorem putChs_snoc (made : Nat) : ∀ (n : Nat) (l : List Rv) (r : Rv), putChs made n (l ++ [r]) = putChs made n l ++ [⟨r, made, (n + l.length) % M64, false⟩]
 | n, [], r => by simp [putChs]
 | n, x :: l, r => by simp [putChs, putChs_snoc made (n + 1) l r, Nat.add_assoc, Nat.add_comm 1]
theorem all_snoc (Y : List Gn) (g : Gn) : all (Y ++ [g]) = all Y ++ gChs g:= by simp [all]
theorem gChs_ended {g : Gn} (h : g.ended = true) : gChs g = putChs g.made g.first g.puts ++ [⟨g.en, 0, 0, true⟩]:= by unfold gChs endChs; rw [if_pos h]
theorem gChs_open {g : Gn} (h : g.ended = false) : gChs g = putChs g.made g.first g.puts:= by unfold gChs endChs; rw [h]; simp
theorem list_last {α : Type} (X : List α) : X = [] ∨ ∃ Y x, X = Y ++ [x] := by
 rcases List.eq_nil_or_concat X with h | ⟨Y, x, h⟩
 ·exact .inl h
 ·exact .inr ⟨Y, x, by rw [h, List.concat_eq_append]⟩
theorem wf_last {L : List Gn} (h : WF L) : L = [] ∨ ∃ Y g, L = Y ++ [g] ∧ ((g.ended = true ∧ all L = (all Y ++ putChs g.made g.first g.puts) ++ [⟨g.en, 0, 0, true⟩]) ∨
  (g.ended = false ∧ ∃ ps r, g.puts = ps ++ [r] ∧ all L = (all Y ++ putChs g.made g.first ps) ++ [⟨r, g.made, (g.first + ps.length) % M64, false⟩])) := by
 rcases list_last L with rfl | ⟨Y, g, rfl⟩
 ·exact .inl rfl
 refine .inr ⟨Y, g, rfl, ?_⟩
 cases he : g.ended with
 | true => exact .inl ⟨rfl, by rw [all_snoc, gChs_ended he, List.append_assoc]⟩
 | false =>
  rcases list_last g.puts with hp | ⟨ps, r, hp⟩
  ·exact absurd hp (h.outer Y g rfl he)
  ·exact .inr ⟨rfl, ps, r, hp, by rw [all_snoc, gChs_open he, hp, putChs_snoc, List.append_assoc]⟩
theorem opn_snoc (Y : List Gn) (g : Gn) : opn (Y ++ [g]) = !g.ended:= by unfold opn; simp
theorem opnA_snoc (A : List Ch) (c : Ch) : opnA (A ++ [c]) = !c.tomb:= by unfold opnA; simp
theorem opn_all {L : List Gn} (h : WF L) : opn L = opnA (all L) := by
 rcases wf_last h with rfl | ⟨Y, g, rfl, ⟨he, ha⟩ | ⟨he, ps, r, hp, ha⟩⟩
 ·rfl
 ·rw [ha, opn_snoc, opnA_snoc, he]
 ·rw [ha, opn_snoc, opnA_snoc, he]
theorem lst_tt (A : List Ch) : lst tt A = A.getLast?:= by unfold lst tt; rw [List.filter_eq_self.2 (fun _ _ => rfl)]
theorem fits_all (L : List Gn) (r : Rv) : fitsB L r = fitA (all L) r := by
 unfold fitsB fitA lstB lstC
 rw [lst_tt]
 cases (all L).getLast? <;> simp
theorem all_putL {L : List Gn} (h : WF L) (r : Rv) (made nth : Nat) : all (putL L r made nth) = all L ++ [nextA (all L) r made nth] := by
 rcases wf_last h with rfl | ⟨Y, g, rfl, ⟨he, ha⟩ | ⟨he, ps, r0, hp, ha⟩⟩
 ·simp [putL, all, nextA, gChs, putChs, endChs]
 ·have hn : nextA (all (Y ++ [g])) r made nth = ⟨r, made, nth % M64, false⟩:= by unfold nextA; rw [ha]; simp
  rw [hn]
  unfold putL
  simp only [List.getLast?_append, List.getLast?_singleton, Option.some_or, he, if_true]
  rw [all_snoc (Y ++ [g])]
  simp [gChs, putChs, endChs]
 ·have hn : nextA (all (Y ++ [g])) r made nth = ⟨r, g.made, (g.first + (ps ++ [r0]).length) % M64, false⟩ := by
   unfold nextA; rw [ha]; simp [M64, Nat.add_assoc]
  rw [hn]
  unfold putL
  simp only [List.getLast?_append, List.getLast?_singleton, Option.some_or, he, List.dropLast_concat]
  rw [if_neg (by simp), all_snoc, all_snoc, gChs_open he, gChs_open rfl, List.append_assoc]
  simp only [hp, putChs_snoc (l := ps ++ [r0])]
theorem all_tombL {L : List Gn} (h : WF L) (ho : opn L = true) (r : Rv) : all (tombL L r) = all L ++ [⟨r, 0, 0, true⟩] := by
 rcases wf_last h with rfl | ⟨Y, g, rfl, ⟨he, ha⟩ | ⟨he, ps, r0, hp, ha⟩⟩
 ·cases ho
 ·rw [opn_snoc, he] at ho; cases ho
 ·unfold tombL
  simp only [List.getLast?_append, List.getLast?_singleton, Option.some_or, List.dropLast_concat]
  rw [all_snoc, all_snoc, gChs_open he, gChs_ended rfl, List.append_assoc]
theorem wf_nil : WF [] := ⟨fun Y g Z h => by simp at h, fun Y g h => by simp at h⟩
theorem wf_snoc {Y : List Gn} {g : Gn} (hY : ∀ x, x ∈ Y → x.ended = true) (hg : g.ended = false → g.puts ≠ []) : WF (Y ++ [g]) := by
 refine ⟨fun A x Z h hZ => ?_, fun A x h he => ?_⟩
 ·rcases list_last Z with rfl | ⟨Z', z, rfl⟩
  ·exact absurd rfl hZ
  ·rw [← List.cons_append, ← List.append_assoc] at h
   obtain ⟨rfl, -⟩ := List.append_inj' h rfl
   exact hY x (by simp)
 ·obtain ⟨rfl, q⟩ := List.append_inj' h rfl
  simp only [List.cons.injEq, and_true] at q
  subst q; exact hg he
theorem wf_init {Y : List Gn} {g : Gn} (h : WF (Y ++ [g])) : ∀ x, x ∈ Y → x.ended = true := by
 intro x hx
 obtain ⟨A, B, rfl⟩ := List.append_of_mem hx
 exact h.inner A x (B ++ [g]) (by simp) (by simp)
theorem wf_put {L : List Gn} (h : WF L) (r : Rv) (made nth : Nat) : WF (putL L r made nth) := by
 rcases list_last L with rfl | ⟨Y, g, rfl⟩
 ·exact wf_snoc (Y := []) (fun x hx => by cases hx) (fun _ => by simp)
 ·unfold putL
  simp only [List.getLast?_append, List.getLast?_singleton, Option.some_or, List.dropLast_concat]
  cases he : g.ended with
  | true =>
   rw [if_pos rfl]
   refine wf_snoc (fun x hx => ?_) (fun _ => by simp)
   rcases List.mem_append.1 hx with hx | hx
   ·exact wf_init h x hx
   ·rw [List.mem_singleton] at hx; subst hx; exact he
  | false =>
   rw [if_neg (by simp)]
   exact wf_snoc (wf_init h) (fun _ => by simp)
theorem wf_tomb {L : List Gn} (h : WF L) (r : Rv) : WF (tombL L r) := by
 rcases list_last L with rfl | ⟨Y, g, rfl⟩
 ·exact wf_nil
 ·unfold tombL
  simp only [List.getLast?_append, List.getLast?_singleton, Option.some_or, List.dropLast_concat]
  exact wf_snoc (wf_init h) (fun q => by cases q)
theorem nextA_rev (A : List Ch) (r : Rv) (made nth : Nat) : (nextA A r made nth).rev = r ∧ (nextA A r made nth).tomb = false := by
 unfold nextA; split
 ·split <;> exact ⟨rfl, rfl⟩
 ·exact ⟨rfl, rfl⟩
end
end Go.Proofs.YtlkngpckibidlaaGreat.W

namespace Go.Proofs.YtlkngpckibidlaaGreat.W
open Go Go.AX
noncomputable section
theorem above_trans {a b c : Rv} (h1 : above a b = true) (h2 : above b c = true) : above a c = true := by
 simp only [above, Bool.or_eq_true, Bool.and_eq_true, decide_eq_true_eq] at *
 omega
theorem above_irrefl (a : Rv) : above a a = false:= by simp [above]
theorem above_le {a b : Rv} (h : above a b = true) : b.1 ≤ a.1 := by
 simp only [above, Bool.or_eq_true, Bool.and_eq_true, decide_eq_true_eq] at h
 omega
def Rising (A : List Ch) : Prop := A.Pairwise fun a b => above b.rev a.rev = true
def compA (A : List Ch) (m : Nat) : List Ch :=
  (match lst (atP m) A with
   | some c => if c.tomb then [] else [c]
   | none => []) ++ A.filter fun c => decide (m < c.rev.1)
theorem last_rel {α : Type} {R : α → α → Prop} {l : List α} {c : α} (hl : l.getLast? = some c) (hp : l.Pairwise R) : ∀ x, x ∈ l → x = c ∨ R x c := by
 intro x hx
 obtain ⟨Y, rfl⟩ : ∃ Y, l = Y ++ [c] := by
  rcases list_last l with rfl | ⟨Y, d, rfl⟩
  ·simp at hl
  ·simp at hl; subst hl; exact ⟨Y, rfl⟩
 rcases List.mem_append.1 hx with q | q
 ·rw [List.pairwise_append] at hp
  exact .inr (hp.2.2 x q c (by simp))
 ·rw [List.mem_singleton] at q; exact .inl q
def isA (A : List Ch) (m : Nat) : Bool := lstB (atP m) A && !(lstC (atP m) A).tomb
def modA (A : List Ch) (m : Nat) : Rv := if isA A m then (lstC (atP m) A).rev else (0, 0)
def kA (A : List Ch) (m : Nat) (r : Rv) : Bool := keepR (isA A m) (modA A m) m r
theorem isA_some {A : List Ch} {m : Nat} (h : isA A m = true) : ∃ c, lst (atP m) A = some c ∧ c.tomb = false ∧ modA A m = c.rev := by
 unfold modA
 rw [if_pos h]
 unfold isA lstB lstC at h
 unfold lstC
 cases q : lst (atP m) A with
 | none => rw [q] at h; cases h
 | some c => rw [q] at h; exact ⟨c, rfl, by simpa using h, rfl⟩
theorem kA_mono {A : List Ch} (m : Nat) (hr : Rising A) : A.Pairwise fun a b => kA A m a.rev = true → m < b.rev.1 := by
 refine List.Pairwise.imp_of_mem (fun {a b} ha hb (hab : above b.rev a.rev = true) hk => ?_) hr
 unfold kA keepR at hk
 simp only [Bool.or_eq_true, Bool.and_eq_true, decide_eq_true_eq] at hk
 rcases hk with hk | ⟨hi, he⟩
 ·exact Nat.lt_of_lt_of_le hk (above_le hab)
 ·obtain ⟨c, hc, -, hm⟩ := isA_some hi
  rcases Nat.lt_or_ge m b.rev.1 with q | q
  ·exact q
  ·exfalso
   rw [hm] at he
   have hbf : b ∈ A.filter (atP m) := List.mem_filter.2 ⟨hb, decide_eq_true q⟩
   rcases last_rel hc (List.Pairwise.filter (atP m) hr) b hbf with e | e
   ·rw [e, ← he] at hab; rw [above_irrefl] at hab; cases hab
   ·have := above_trans e hab
    rw [he, above_irrefl] at this; cases this
theorem kA_tomb {A : List Ch} {m : Nat} (hr : Rising A) {c : Ch} (hc : c ∈ A) (ht : c.tomb = true) : kA A m c.rev = decide (m < c.rev.1) := by
 unfold kA keepR
 cases hi : isA A m with
 | false => simp
 | true =>
  obtain ⟨d, hd, hdt, hm⟩ := isA_some hi
  rw [hm]
  have hdm : d ∈ A.filter (atP m) := List.mem_of_getLast? hd
  have hdm2 := (List.mem_filter.1 hdm).1
  have hne : c.rev ≠ d.rev := by
   intro e
   have hcf : c ∈ A.filter (atP m) := List.mem_filter.2 ⟨hc, by have := (List.mem_filter.1 hdm).2; unfold atP at *; rw [e]; exact this⟩
   rcases last_rel hd (List.Pairwise.filter (atP m) hr) c hcf with q | q
   ·subst q; rw [hdt] at ht; cases ht
   ·rw [e, above_irrefl] at q; cases q
  simp [hne]
theorem compA_filter {A : List Ch} (m : Nat) (hr : Rising A) : compA A m = A.filter fun c => kA A m c.rev := by
 -- up to the Main, and above it
 have split : ∀ (B : List Ch), Rising B → ∃ P Q, B = P ++ Q ∧ (∀ c, c ∈ P → c.rev.1 ≤ m) ∧ ∀ c, c ∈ Q → m < c.rev.1 := by
  intro B hB
  induction B with
  | nil => exact ⟨[], [], rfl, (fun _ h => by cases h), fun _ h => by cases h⟩
  | cons a B ih =>
   unfold Rising at hB
   rw [List.pairwise_cons] at hB
   rcases Nat.lt_or_ge m a.rev.1 with q | q
   ·refine ⟨[], a :: B, rfl, (fun _ h => by cases h), fun c hc => ?_⟩
    rcases List.mem_cons.1 hc with rfl | hc
    ·exact q
    ·exact Nat.lt_of_lt_of_le q (above_le (hB.1 c hc))
   ·obtain ⟨P, Q, rfl, hP, hQ⟩ := ih hB.2
    refine ⟨a :: P, Q, rfl, fun c hc => ?_, hQ⟩
    rcases List.mem_cons.1 hc with rfl | hc
    ·exact q
    ·exact hP c hc
 obtain ⟨P, Q, hA, hP, hQ⟩ := split A hr
 have hl : lst (atP m) A = P.getLast? := by
  unfold lst atP
  rw [hA, List.filter_append, List.filter_eq_self.2 (fun c hc => decide_eq_true (hP c hc)), List.filter_eq_nil_iff.2 (fun c hc => by have := hQ c hc; simp; omega), List.append_nil]
 have hgt : (A.filter fun c => decide (m < c.rev.1)) = Q := by
  rw [hA, List.filter_append, List.filter_eq_nil_iff.2 (fun c hc => by have := hP c hc; simp; omega), List.filter_eq_self.2 (fun c hc => decide_eq_true (hQ c hc)), List.nil_append]
 have hkQ : (Q.filter fun c => kA A m c.rev) = Q := List.filter_eq_self.2 fun c hc => by unfold kA keepR; rw [decide_eq_true (hQ c hc)]; rfl
 unfold compA
 rw [hgt]
 conv => rhs; arg 2; rw [hA]
 rw [List.filter_append, hkQ]
 congr 1
 rw [hl]
 rcases list_last P with rfl | ⟨Y, c, rfl⟩
 ·rfl
 ·rw [List.getLast?_append, List.getLast?_singleton, Option.some_or]
  simp only
  have hlc : lst (atP m) A = some c:= by rw [hl]; simp
  have hr2 : Rising (Y ++ [c]) := by
   unfold Rising at hr ⊢; rw [hA, List.pairwise_append] at hr; exact hr.1
  have hY : (Y.filter fun c => kA A m c.rev) = [] := List.filter_eq_nil_iff.2 fun y hy hk => by
   unfold Rising at hr2
   rw [List.pairwise_append] at hr2
   have hyc := hr2.2.2 y hy c (by simp)
   have hym := hP y (List.mem_append_left _ hy)
   unfold kA keepR at hk
   simp only [Bool.or_eq_true, Bool.and_eq_true, decide_eq_true_eq] at hk
   rcases hk with hk | ⟨hi, he⟩
   ·omega
   ·obtain ⟨d, hd, -, hm⟩ := isA_some hi
    rw [hlc] at hd; cases hd
    rw [hm] at he; rw [he, above_irrefl] at hyc; cases hyc
  rw [List.filter_append, hY, List.nil_append]
  have hcm := hP c (by simp)
  cases ht : c.tomb with
  | true =>
   have hck : kA A m c.rev = false := by
    rw [kA_tomb hr (by rw [hA]; simp) ht]; exact decide_eq_false (by omega)
   simp [hck]
  | false =>
   have hi : isA A m = true:= by unfold isA lstB lstC; rw [hlc]; simp [ht]
   obtain ⟨d, hd, -, hm⟩ := isA_some hi
   rw [hlc] at hd; cases hd
   have hck : kA A m c.rev = true:= by unfold kA keepR; rw [hi, hm]; simp
   simp [hck]
theorem putChs_mod (made : Nat) (n : Nat) (l : List Rv) : putChs made (n % M64) l = putChs made n l := by
 apply List.ext_getElem?
 intro i
 rw [putChs_get, putChs_get]
 cases l[i]? with
 | none => rfl
 | some r => simp [M64]
theorem putChs_filter (made : Nat) (k : Rv → Bool) : ∀ (n : Nat) (l : List Rv), (l.Pairwise fun a b => k a = true → k b = true) → (putChs made n l).filter (fun c => k c.rev) = putChs made (n + l.findIdx k) (l.filter k)
 | n, [], _ => rfl
 | n, r :: l, hp => by
  rw [List.pairwise_cons] at hp
  cases hk : k r with
  | true =>
   have hl : l.filter k = l := List.filter_eq_self.2 fun x hx => hp.1 x hx hk
   have hf : (putChs made (n + 1) l).filter (fun c => k c.rev) = putChs made (n + 1) l := List.filter_eq_self.2 fun c hc => by
    obtain ⟨i, hi⟩ := List.mem_iff_getElem?.1 hc
    rw [putChs_get] at hi
    cases hx : l[i]? with
    | none => rw [hx] at hi; cases hi
    | some x => rw [hx] at hi; cases hi; exact hp.1 x (List.mem_of_getElem? hx) hk
   simp only [putChs, List.filter_cons, hk, if_true, hf, hl, List.findIdx_cons, cond_true, Nat.add_zero]
  | false =>
   simp only [putChs, List.filter_cons, hk, List.findIdx_cons, cond_false]
   rw [if_neg (by simp), if_neg (by simp), putChs_filter made k (n + 1) l hp.2, show n + 1 + l.findIdx k = n + (l.findIdx k + 1) by omega]
theorem putChs_rev (made : Nat) : ∀ (n : Nat) (l : List Rv), (putChs made n l).map (·.rev) = l
 | _, [] => rfl
 | n, r :: l => by simp [putChs, putChs_rev made (n + 1) l]
theorem gChs_comp {g : Gn} (is : Bool) (mod : Rv) (m : Nat) (hm : (gChs g).Pairwise fun a b => keepR is mod m a.rev = true → m < b.rev.1) (ht : g.ended = true → keepR is mod m g.en = decide (m < g.en.1)) :
  (gChs g).filter (fun c => keepR is mod m c.rev) = ((compG is mod m g).toList).flatMap gChs := by
 have hk : ∀ r : Rv, m < r.1 → keepR is mod m r = true := fun r h => by unfold keepR; rw [decide_eq_true h]; rfl
 unfold gChs at hm
 rw [List.pairwise_append] at hm
 have hp : g.puts.Pairwise fun a b => keepR is mod m a = true → keepR is mod m b = true := by
  have h1 : ((putChs g.made g.first g.puts).map (·.rev)).Pairwise fun a b => keepR is mod m a = true → keepR is mod m b = true :=
   List.pairwise_map.2 (hm.1.imp fun h hk1 => hk _ (h hk1))
  rwa [putChs_rev] at h1
 have hputs : (putChs g.made g.first g.puts).filter (fun c => keepR is mod m c.rev) = putChs g.made (leftFirst is mod m g g.puts.length) (g.puts.filter (keepR is mod m)) := by
  rw [putChs_filter _ _ _ _ hp]
  unfold leftFirst leftPuts
  rw [List.take_length]
  by_cases q : g.puts.filter (keepR is mod m) = []
  ·rw [q]; rfl
  ·rw [if_neg q, putChs_mod]
 unfold compG
 conv => lhs; unfold gChs
 rw [List.filter_append, hputs]
 unfold endChs
 cases he : g.ended with
 | false =>
  simp only [Bool.false_and, Bool.or_false]
  by_cases q : g.puts.filter (keepR is mod m) = []
  ·simp [q, putChs]
  ·simp [q, gChs, endChs, he]
 | true =>
  have hte := ht he
  by_cases q : g.en.1 ≤ m
  ·have hf : decide (m < g.en.1) = false := decide_eq_false (by omega)
   rw [hf] at hte
   have hn : g.puts.filter (keepR is mod m) = [] := by
    rw [List.filter_eq_nil_iff]
    intro r hr hkr
    have : r ∈ (putChs g.made g.first g.puts).map (·.rev):= by rw [putChs_rev]; exact hr
    obtain ⟨c, hc, rfl⟩ := List.mem_map.1 this
    have := hm.2.2 c hc ⟨g.en, 0, 0, true⟩ (by unfold endChs; rw [he]; simp) hkr
    have : m < g.en.1 := this
    omega
   simp [q, hn, putChs, hte]
  ·have hf : decide (m < g.en.1) = true := decide_eq_true (by omega)
   rw [hf] at hte
   simp [q, gChs, endChs, he, hte]
theorem all_compL {L : List Gn} (m : Nat) (hr : Rising (all L)) : all (compL L m) = compA (all L) m := by
 rw [compA_filter m hr]
 have hmono := kA_mono m hr
 have htomb := fun c hc ht => kA_tomb (m := m) hr (c := c) hc ht
 have e : ∀ r, kA (all L) m r = keepR (atB L m) (atK L m).rev m r := fun r => by
  unfold kA modA isA atK atB
  split <;> rfl
 simp only [e] at hmono htomb ⊢
 unfold compL
 generalize atB L m = is at *
 generalize (atK L m).rev = mod at *
 unfold all
 rw [List.filter_flatMap]
 have : ∀ (M : List Gn), (∀ g, g ∈ M → g ∈ L) → (M.filterMap (compG is mod m)).flatMap gChs = M.flatMap fun g => (gChs g).filter fun c => keepR is mod m c.rev := by
  intro M hM
  induction M with
  | nil => rfl
  | cons g M ih =>
   have hg := hM g (by simp)
   have h1 := gChs_comp (g := g) is mod m (by
    unfold all at hmono
    rw [List.pairwise_flatMap] at hmono
    exact hmono.1 g hg) (fun he => htomb ⟨g.en, 0, 0, true⟩ (List.mem_flatMap.2 ⟨g, hg, by rw [gChs_ended he]; simp⟩) rfl)
   rw [List.flatMap_cons, h1, ← ih (fun x hx => hM x (List.mem_cons_of_mem _ hx)), List.filterMap_cons]
   cases compG is mod m g <;> simp
 exact this L fun _ h => h
theorem compG_ended {is : Bool} {mod : Rv} {m : Nat} {g g' : Gn} (h : compG is mod m g = some g') : g'.ended = g.ended ∧ (g'.ended = false → g'.puts ≠ []) ∧ g'.puts.length ≤ g.puts.length := by
 unfold compG at h
 split at h
 ·cases h
 ·split at h
  ·rename_i h1 h2
   cases h
   refine ⟨rfl, fun q hn => ?_, List.length_filter_le _ _⟩
   have q : g.ended = false := q
   have hn : g.puts.filter (keepR is mod m) = [] := hn
   rw [q, hn] at h2; simp at h2
  ·cases h
theorem wf_ended {L : List Gn} (h : ∀ g, g ∈ L → g.ended = true) : WF L :=
 ⟨fun Y g Z e _ => h g (by rw [e]; simp), fun Y g e q => by rw [h g (by rw [e]; simp)] at q; cases q⟩
theorem wf_comp {L : List Gn} (h : WF L) (m : Nat) : WF (compL L m) := by
 rcases list_last L with rfl | ⟨Y, g, rfl⟩
 ·exact wf_nil
 ·unfold compL
  generalize atB (Y ++ [g]) m = is
  generalize (atK (Y ++ [g]) m).rev = mod
  have hY : ∀ x, x ∈ Y.filterMap (compG is mod m) → x.ended = true := fun x hx => by
   obtain ⟨y, hy, e⟩ := List.mem_filterMap.1 hx
   rw [(compG_ended e).1]; exact wf_init h y hy
  rw [List.filterMap_append]
  cases hg : compG is mod m g with
  | none => rw [show [g].filterMap (compG is mod m) = [] by simp [hg], List.append_nil]; exact wf_ended hY
  | some g' =>
   rw [show [g].filterMap (compG is mod m) = [g'] by simp [hg]]
   exact wf_snoc hY (compG_ended hg).2.1
theorem sz_comp {N : Nat} {L : List Gn} (h : Sz N L) (m : Nat) : Sz N (compL L m) := by
 unfold compL
 refine ⟨Nat.le_trans (List.length_filterMap_le _ _) h.1, fun x hx => ?_⟩
 obtain ⟨y, hy, e⟩ := List.mem_filterMap.1 hx
 exact Nat.le_trans (compG_ended e).2.2 (h.2 y hy)
theorem rising_comp {A : List Ch} (h : Rising A) (m : Nat) : Rising (compA A m) := by
 rw [compA_filter m h]; exact List.Pairwise.filter _ h
theorem rising_snoc {A : List Ch} (h : Rising A) {c : Ch} (hf : fitA A c.rev = true) : Rising (A ++ [c]) := by
 unfold Rising at *
 rw [List.pairwise_append]
 refine ⟨h, by simp, fun x hx y hy => ?_⟩
 rw [List.mem_singleton] at hy; subst hy
 rcases list_last A with rfl | ⟨Y, d, rfl⟩
 ·cases hx
 ·unfold fitA at hf
  simp at hf
  rcases last_rel (c := d) (by simp) h x hx with rfl | q
  ·exact hf.2
  ·exact above_trans hf.2 q
end
end Go.Proofs.YtlkngpckibidlaaGreat.W

namespace Go.Proofs.YtlkngpckibidlaaGreat.W
open Go Go.AX
noncomputable section
set_option maxRecDepth 100000
structure RvI (h0 : H) (sa sb : AV) (la lb : List Rv) (n : Nat) (ds : List Nat) (tm : T AV) (h : H) (i : Nat) : Prop where
 ds : ds = []
 nn : n = la.length - i
 ii : i ≤ la.length
 t0 : tm.get 0 = some sa
 t1 : tm.get 1 = some sb
 t5 : tm.get 5 = some (.int .i64 (.ofNat i))
 hh : h = h0
 he : ∀ k, k < i → la[k]? = lb[k]?
theorem revsC (h : H) (sa sb : AV) (la lb : List Rv) (ha : SliceAt h sa la.length (rvsC la)) (hb : SliceAt h sb lb.length (rvsC lb)) (hz : la.length ≤ 4000000000000) : PushC P (.enter 11 [sa, sb] h) (Says h (.bool (decide (la = lb)))) := by
 have hla := ha.len (P := P) u42
 have hlb := hb.len (P := P) u42
 have hoa := SliceAt.one ha
 have hob := SliceAt.one hb
 refine pushC_of_codeW (fn := Tryz.f11) (c := bodyC Tryz.f11) Tryz.func11 rfl ?_
 show codeW P 11 26 none _ _ _ _ _
 refine codeW_root ?_
 cases q : decide (la.length = lb.length) with
 | false =>
  have e : decide (la = lb) = false := decide_eq_false (fun e => by rw [e] at q; simp at q)
  rw [e]
  refine rT ?_ (V hla<|V hlb<|q)
  exact ⟨rfl, Only.refl _ _⟩
 | true =>
  have hlen := of_decide_eq_true q
  refine rT ?_ (V hla<|V hlb<|q)
  refine st_loop (fun n ds tm h' => ∃ i, RvI h sa sb la lb n ds tm h' i) la.length rfl
   ⟨0, rfl, rfl, Nat.zero_le _, by exact sT, by exact sT, by exact sT, rfl, fun k hk => by omega⟩ (fun n ds tm h' hI => ?_)
  obtain ⟨i, rfl, rfl, ii, t0, t1, t5, rfl, he⟩ := hI
  by_cases hi : i < la.length
  ·have d1 : decide (i < la.length) = true := decide_eq_true hi
   have lt1 : (i < la.length) = True:= by simp [hi]
   have lt2 : (i < lb.length) = True:= by simp; omega
   have w2 : wrapF .i64 (Int.ofNat i + Int.ofNat 1) = Int.ofNat (i + 1) := i64_add (by omega)
   obtain ⟨x, hx⟩ : ∃ x, la[i]? = some x := ⟨_, List.getElem?_eq_getElem hi⟩
   obtain ⟨y, hy⟩ : ∃ y, lb[i]? = some y := ⟨_, List.getElem?_eq_getElem (by omega)⟩
   obtain ⟨ba, oa, ca, rfl, _, _⟩ := ha.place (by omega)
   obtain ⟨bb, ob, cb, rfl, _, _⟩ := hb.place (by omega)
   obtain ⟨a0, a1⟩ := rvC_at ha hx
   obtain ⟨b0, b1⟩ := rvC_at hb hy
   cases qm : (decide (x.1 = y.1) && decide (x.2 = y.2)) with
   | true =>
    have exy : x = y := by
     simp only [Bool.and_eq_true, decide_eq_true_eq] at qm
     exact Prod.ext qm.1 qm.2
    refine rT ?_ (V t0<|V t1<|V t5<|V hla<|V d1<|V lt1<|V lt2<|V a0<|V a1<|V b0<|V b1<|V qm<|V @Bool.not_true<|V @Bool.not_false<|w2)
    refine ⟨la.length - (i + 1), by omega, i + 1, rfl, rfl, hi, by exact sT, by exact sT, by exact sT, rfl, fun k hk => ?_⟩
    rcases Nat.lt_or_ge k i with q1 | q1
    ·exact he k q1
    ·obtain rfl : k = i:= by omega
     rw [hx, hy, exy]
   | false =>
    have e : decide (la = lb) = false := decide_eq_false (fun e => by subst e; rw [hx] at hy; cases hy; simp at qm)
    rw [e]
    refine rT ?_ (V t0<|V t1<|V t5<|V hla<|V d1<|V lt1<|V lt2<|V a0<|V a1<|V b0<|V b1<|V qm<|V @Bool.not_true<|V @Bool.not_false<|w2)
    exact ⟨rfl, Only.refl _ _⟩
  ·have d1 : decide (i < la.length) = false := decide_eq_false hi
   have e : decide (la = lb) = true := decide_eq_true (by
    apply List.ext_getElem?
    intro k
    rcases Nat.lt_or_ge k i with q1 | q1
    ·exact he k q1
    ·rw [List.getElem?_eq_none (by omega), List.getElem?_eq_none (by omega)])
   rw [e]
   refine rT ?_ (V t0<|V t1<|V t5<|V hla<|d1)
   exact ⟨rfl, Only.refl _ _⟩
end
end Go.Proofs.YtlkngpckibidlaaGreat.W

namespace Go.Proofs.YtlkngpckibidlaaGreat.W
open Go Go.AX
noncomputable section
theorem split_at {B : List Ch} (m : Nat) (hB : Rising B) : ∃ P Q, B = P ++ Q ∧ (∀ c, c ∈ P → c.rev.1 ≤ m) ∧ ∀ c, c ∈ Q → m < c.rev.1 := by
 induction B with
 | nil => exact ⟨[], [], rfl, (fun _ h => by cases h), fun _ h => by cases h⟩
 | cons a B ih =>
  unfold Rising at hB
  rw [List.pairwise_cons] at hB
  rcases Nat.lt_or_ge m a.rev.1 with q | q
  ·refine ⟨[], a :: B, rfl, (fun _ h => by cases h), fun c hc => ?_⟩
   rcases List.mem_cons.1 hc with rfl | hc
   ·exact q
   ·exact Nat.lt_of_lt_of_le q (above_le (hB.1 c hc))
  ·obtain ⟨P, Q, rfl, hP, hQ⟩ := ih hB.2
   refine ⟨a :: P, Q, rfl, fun c hc => ?_, hQ⟩
   rcases List.mem_cons.1 hc with rfl | hc
   ·exact q
   ·exact hP c hc
def headK (P : List Ch) : List Ch :=
 match P.getLast? with
 | some c => if c.tomb then [] else [c]
 | none => []
theorem filter_all {α : Type} {p : α → Bool} {l : List α} (h : ∀ x, x ∈ l → p x = true) : l.filter p = l := List.filter_eq_self.2 h
theorem filter_none {α : Type} {p : α → Bool} {l : List α} (h : ∀ x, x ∈ l → p x = false) : l.filter p = [] := List.filter_eq_nil_iff.2 fun x hx => by rw [h x hx]; simp
theorem comp_split {P Q : List Ch} {m : Nat} (hP : ∀ c, c ∈ P → c.rev.1 ≤ m) (hQ : ∀ c, c ∈ Q → m < c.rev.1) : compA (P ++ Q) m = headK P ++ Q := by
 have hl : lst (atP m) (P ++ Q) = P.getLast? := by
  unfold lst atP
  rw [List.filter_append, filter_all (fun c hc => decide_eq_true (hP c hc)), filter_none (fun c hc => decide_eq_false (by have := hQ c hc; omega)), List.append_nil]
 unfold compA
 rw [hl, List.filter_append, filter_none (fun c hc => decide_eq_false (by have := hP c hc; omega)), filter_all (fun c hc => decide_eq_true (hQ c hc)), List.nil_append]
 rfl
def isK (A : List Ch) (m : Nat) : List Ch :=
 match lst (atP m) A with
 | some c => if c.tomb then [] else [c]
 | none => []
theorem isK_split {P Q : List Ch} {m : Nat} (hP : ∀ c, c ∈ P → c.rev.1 ≤ m) : isK (P ++ Q) m = match lst (atP m) Q with | some c => if c.tomb then [] else [c] | none => headK P := by
 unfold isK lst
 rw [List.filter_append, filter_all (p := atP m) (l := P) (fun c hc => decide_eq_true (hP c hc)), List.getLast?_append]
 cases (Q.filter (atP m)).getLast? <;> rfl
theorem atB_isK (L : List Gn) (m : Nat) : atB L m = !(isK (all L) m).isEmpty := by
 unfold atB isK lstB lstC
 cases lst (atP m) (all L) with
 | none => rfl
 | some c => cases ht : c.tomb <;> simp [ht]
theorem atK_isK (L : List Gn) (m : Nat) : atK L m = (isK (all L) m).headD ch0 := by
 have := atB_isK L m
 unfold atK
 rw [this]
 unfold isK lstC
 cases lst (atP m) (all L) with
 | none => rfl
 | some c => cases ht : c.tomb <;> simp [ht]
theorem compK_isK (L : List Gn) (m : Nat) : compK L m = (isK (all L) m).map (·.rev) := by
 unfold compK
 rw [atB_isK, atK_isK]
 unfold isK
 cases lst (atP m) (all L) with
 | none => rfl
 | some c => cases ht : c.tomb <;> simp [ht]
def NthPos (A : List Ch) : Prop := ∀ c, c ∈ A → c.tomb = false → 0 < c.nth
structure ChOk (c : Ch) : Prop where
 pos : 0 < c.rev.1
 tb : c.tomb = true → c.made = 0 ∧ c.nth = 0
 nt : c.tomb = false → 0 < c.made ∧ c.made ≤ c.rev.1 ∧ 0 < c.nth ∧ c.nth < M64
structure Link (a b : Ch) : Prop where
 tb : b.tomb = true → a.tomb = false
 nw : b.tomb = false → a.tomb = true → a.rev.1 < b.made
 nx : b.tomb = false → a.tomb = false → b.made = a.made ∧ b.nth = (a.nth + 1) % M64
 lt : a.rev.1 < b.rev.1
structure Good (A : List Ch) : Prop where
 hd : ∀ c l, A = c :: l → c.tomb = false
 ok : ∀ c, c ∈ A → ChOk c
 ln : ∀ i a b, A[i]? = some a → A[i + 1]? = some b → Link a b
theorem Good.nil : Good [] := ⟨fun _ _ h => (by cases h), fun _ h => (by cases h), fun i a b h => by simp at h⟩
theorem Good.nth {A : List Ch} (h : Good A) : NthPos A := fun c hc ht => ((h.ok c hc).nt ht).2.2.1
theorem rest_all (L : List Gn) (hw : WF L) (r : Rv) (made nth : Nat) : restB L r made nth = restA (all L) r made nth := by
 unfold restB restA
 rw [fits_all]
 congr 1
 rcases wf_last hw with rfl | ⟨Y, g, rfl, ⟨he, ha⟩ | ⟨he, ps, r0, hp, ha⟩⟩
 ·rfl
 ·rw [ha]; simp [he]
 ·rw [ha]; simp [he, hp, M64, Nat.add_assoc]
theorem empty_all {L : List Gn} (hw : WF L) : L.isEmpty = (all L).isEmpty := by
 rcases wf_last hw with rfl | ⟨Y, g, rfl, ⟨he, ha⟩ | ⟨he, ps, r0, hp, ha⟩⟩
 ·rfl
 ·rw [ha]; rw [show (Y ++ [g]).isEmpty = false by cases Y <;> rfl]; symm; rw [List.isEmpty_eq_false_iff]; simp
 ·rw [ha]; rw [show (Y ++ [g]).isEmpty = false by cases Y <;> rfl]; symm; rw [List.isEmpty_eq_false_iff]; simp
end
end Go.Proofs.YtlkngpckibidlaaGreat.W

namespace Go.Proofs.YtlkngpckibidlaaGreat.W
open Go Go.AX
noncomputable section
set_option maxRecDepth 100000
theorem GensAt.nil (h : H) : GensAt h (.agg [.nilslice]) [] := ⟨.nilslice, [], rfl, rfl, ⟨.none, fun x hx => by cases hx⟩, fun _ => rfl, fun Y x e => by simp at e⟩
theorem GensP.nil (p : Nat → Prop) (h : H) : GensP p h (.agg [.nilslice]) [] := ⟨.nilslice, [], rfl, rfl, ⟨.none, fun x hx => by cases hx⟩, ⟨fun _ => rfl, fun Y x e => by simp at e⟩, ⟨(fun b q => by cases q), fun x hx => by cases hx⟩⟩
theorem GensP.val {p : Nat → Prop} {h : H} {v : AV} {L : List Gn} (hg : GensP p h v L) : ∃ s, v = .agg [s] ∧ s.one = true ∧ s.cells = [s] := by
 obtain ⟨s, X, rfl, -, hh, -⟩ := hg; exact ⟨s, rfl, SliceAt.one hh.1, SliceAt.cells hh.1⟩
theorem GensAt.val {h : H} {v : AV} {L : List Gn} (hg : GensAt h v L) : ∃ s, v = .agg [s] ∧ s.one = true ∧ s.cells = [s] := hg.p.val
theorem _root_.Go.AX.Only.t {h h' h'' : H} (a : Only h h' []) (b : Only h' h'' []) : Only h h'' [] := a.trans b (fun _ h => h) (fun _ h => by cases h)
theorem wf_some {L : List Gn} (h : WF L) : ∀ g, g ∈ L → gChs g ≠ [] := by
 have he : ∀ g : Gn, g.ended = true → gChs g ≠ [] := fun g q => by rw [gChs_ended q]; simp
 intro g hg
 rcases list_last L with rfl | ⟨Y, x, rfl⟩
 ·cases hg
 ·rcases List.mem_append.1 hg with q | q
  ·exact he g (wf_init h g q)
  ·rw [List.mem_singleton] at q; subst q
   cases qe : g.ended with
   | true => exact he g qe
   | false =>
    have := h.outer Y g rfl qe
    unfold gChs
    intro e
    rw [List.append_eq_nil_iff] at e
    have e2 := congrArg List.length e.1
    rw [putChs_len] at e2
    exact this (List.length_eq_zero_iff.1 e2)
theorem len_all {L : List Gn} (h : ∀ g, g ∈ L → gChs g ≠ []) : L.length ≤ (all L).length ∧ ∀ g, g ∈ L → g.puts.length ≤ (all L).length := by
 induction L with
 | nil => exact ⟨Nat.le_refl _, fun _ q => by cases q⟩
 | cons x L ih =>
  obtain ⟨i1, i2⟩ := ih (fun g hg => h g (List.mem_cons_of_mem _ hg))
  have e : all (x :: L) = gChs x ++ all L:= by simp [all]
  have hx := h x (by simp)
  have h1 : 0 < (gChs x).length := List.length_pos_iff.2 hx
  have h2 : x.puts.length ≤ (gChs x).length:= by unfold gChs; rw [List.length_append, putChs_len]; omega
  rw [e, List.length_append]
  refine ⟨by simp; omega, fun g hg => ?_⟩
  rcases List.mem_cons.1 hg with rfl | q
  ·omega
  ·have := i2 g q; omega
theorem wf_sz {L : List Gn} (h : WF L) : Sz (all L).length L := len_all (wf_some h)
end
end Go.Proofs.YtlkngpckibidlaaGreat.W

namespace Go.AX
noncomputable section
open Go.RowKit
def openH (h : H) (b c : Nat) : H :=
 match h.t.get b with
 | some (.cells _ t k false) => { h with t := h.t.set b (some (.cells (c * k.sz) t k false)) }
 | _ => h
section
variable {P : Program}
theorem openH_get {h : H} {b c m : Nat} {t : T AV} {k : EK} (hb : h.t.get b = some (.cells m t k false)) (b' : Nat) : (openH h b c).t.get b' = if b' = b then some (.cells (c * k.sz) t k false) else h.t.get b' := by
 unfold openH; rw [hb]; exact T.get_set _ _ _ _
theorem openH_nx (h : H) (b c : Nat) : (openH h b c).nx = h.nx:= by unfold openH; split <;> rfl
theorem open_rel {N : NN} {φ : Phi} {h : H} {w : World} (hr : HR N φ h w) {b m : Nat} {t : T AV} {k : EK} (hb : h.t.get b = some (.cells m t k false)) (hk : 0 < k.sz) {L : Loc} (hL : φ b = some L) : m ≤ L.K * k.sz ∧ HR N φ (openH h b L.K) w := by
 have ho := hr.get hb hL
 obtain ⟨c, ty, frz, g1, g2, g3, g4, g5, g6⟩ := ho
 have hsz := g5 (by omega)
 refine ⟨by omega, ?_⟩
 have hs := hr.set hb hL (.cells (L.K * k.sz) t k false) (w' := w) (fun _ _ => rfl) ⟨c, ty, frz, g1, by omega, fun i v hv => by
  obtain ⟨a1, a2, a3⟩ := g3 i v hv
  exact ⟨by omega, a2, a3⟩, g4, g5, g6⟩
 unfold openH; rw [hb]; exact hs
theorem pushC_open {f : FuncId} {rest : List AV} {h : H} {Q : AV → H → Prop} {b m len : Nat} {t : T AV} {k : EK} (hb : h.t.get b = some (.cells m t k false)) (hk : 0 < k.sz)
  (hw : ∀ c, len ≤ c → m ≤ c * k.sz → PushC P (.enter f (.slice b 0 len (.exact c) :: rest) (openH h b c)) Q) : PushC P (.enter f (.slice b 0 len (.opn 0) :: rest) h) Q := by
 intro bfr cs hfin
 have hent : ∀ (x : AV) (h' : H) s0, pushS P bfr cs (.enter f (x :: rest) h') = some s0 → ∃ fn c, P.funcs[f]? = some fn ∧ fn.body = some c ∧ s0 = ⟨mkF f (Nat.max (rest.length + 1) fn.ntmps) .normal none [] (T.fill .e 0 (x :: rest)) [.code c], bfr :: cs, h'⟩ := by
  intro x h' s0 e
  simp only [pushS, enterA] at e
  split at e
  ·rename_i fr he
   cases e
   split at he
   ·rename_i fn hf
    split at he
    ·rename_i c hc
     cases he
     exact ⟨fn, c, hf, hc, rfl⟩
    ·cases he
   ·cases he
  ·cases e
 obtain ⟨M, hM1, hM2⟩ : ∃ M, len ≤ M ∧ m ≤ M * k.sz := ⟨len + m, by omega, Nat.le_trans (Nat.le_add_left m len) (Nat.le_mul_of_pos_right _ hk)⟩
 obtain ⟨s1, e1, -⟩ := hw M hM1 hM2 bfr cs hfin
 obtain ⟨fn, c, hf, hc, -⟩ := hent _ _ _ e1
 have hpush : ∀ (x : AV) (h' : H), pushS P bfr cs (.enter f (x :: rest) h') = some ⟨mkF f (Nat.max (rest.length + 1) fn.ntmps) .normal none [] (T.fill .e 0 (x :: rest)) [.code c], bfr :: cs, h'⟩ := fun x h' => by
  simp only [pushS, enterA, hf, hc]; rfl
 refine ⟨_, hpush _ _, ?_⟩
 intro N w0 bot φ fr fcs w hs
 obtain ⟨hF, hcs, hh, hbl, hN⟩ := hs
 have hF := hF.un rfl
 obtain ⟨f1, ⟨f2, f2'⟩, f3, f4, f5, f6, f7⟩ := hF
 have h0 := f2' 0
 rw [T.get_fill0] at h0
 have h0 : VR φ (.slice b 0 len (.opn 0)) (fr.tmps.getD 0 Go.undef) := h0
 rw [VR_sliceOp] at h0
 obtain ⟨L, hL, hv, hle⟩ := h0
 obtain ⟨hm, hopen⟩ := open_rel hh hb hk hL
 obtain ⟨s2, e2, hl2⟩ := hw L.K (by omega) hm bfr cs hfin
 rw [hpush] at e2
 cases e2
 refine hl2 N w0 bot φ fr fcs w ⟨.mk rfl ⟨f1, ⟨f2, fun i => ?_⟩, f3, f4, f5, f6, f7⟩, hcs, hopen, hbl, hN⟩
 have hi := f2' i
 rw [T.get_fill0] at hi ⊢
 cases i with
 | zero =>
  show VR φ (.slice b 0 len (.exact L.K)) _
  rw [VR_sliceEx]
  exact ⟨L, hL, by rw [hv]; simp⟩
 | succ i => exact hi
end
end
end Go.AX

namespace Go.AX
noncomputable section
open Go.RowKit
def overExt (f0 : FuncId) (f : FuncId) (args : List AV) (h : H) : Option (AV × H) :=
 match Nat.beq f f0 with
 | true => match args with
  | [.slice b1 _ _ _, .slice b2 _ _ _] => match Nat.beq b1 b2, h.t.get b1, h.t.get b2 with
   | false, some (.cells _ _ k1 false), some (.cells m2 _ _ _) => match Nat.beq k1.sz 0, Nat.beq m2 0 with
    | true, false => some (.bool false, h)
    | _, _ => none
   | _, _, _ => none
  | _ => none
 | false => none
def overHook (f0 : FuncId) : Hook := ⟨fun _ _ _ => none, overExt f0⟩
theorem slice_is {φ : Phi} {b o n : Nat} {c : Cap} {v : Value} (h : VR φ (.slice b o n c) v) : ∃ L k, φ b = some L ∧ v = .slice (some ⟨L.B, L.base + o, none⟩) n k := by
 cases c with
 | exact c => rw [VR_sliceEx] at h; obtain ⟨L, h1, h2⟩ := h; exact ⟨L, c, h1, h2⟩
 | opn i => rw [VR_sliceOp] at h; obtain ⟨L, h1, h2, _⟩ := h; exact ⟨L, _, h1, h2⟩
theorem overHook_ok {P : Program} {f0 : FuncId} {t r e : TypeId} {size : Nat} (ht : P.underlying t = some (.slice e)) (hz : ∀ w, (Go.sizeOf e).run P w = .ok size w) (he : ExtIs P f0 (Extern.SlicesOverlaps.overlaps #[t, t] #[r])) : HookOk P (overHook f0) := by
 refine ⟨fun _ _ _ _ _ h => (by cases h), ?_⟩
 intro f args h v h' hk N φ w cargs hr hN ha
 unfold overHook overExt at hk
 simp only at hk
 split at hk
 ·rename_i hf
  have hf := Nat.eq_of_beq_eq_true hf; subst hf
  split at hk
  ·rename_i b1 o1 n1 c1 b2 o2 n2 c2
   split at hk
   ·rename_i m1 t1 k1 m2 t2 k2 ro2 hb hg1 hg2
    split at hk
    ·rename_i hs hm
     cases hk
     obtain ⟨v1, vs, hc, h1, hr2⟩ := All2.cons_left.1 ha
     obtain ⟨v2, vs2, hc2, h2, hr3⟩ := All2.cons_left.1 hr2
     have := All2.nil_left.1 hr3; subst this; subst hc2
     have hca : cargs = #[v1, v2]:= by cases cargs; simp_all
     subst hca
     obtain ⟨L1, q1, e1, rfl⟩ := slice_is h1
     obtain ⟨L2, q2, e2, rfl⟩ := slice_is h2
     obtain ⟨x1, y1, z1, g1, g2, g3, g4, g5, g6, g7, g8⟩ := hr.get hg1 e1
     obtain ⟨x2, y2, z2, k1', k2', -⟩ := hr.get hg2 e2
     have hs := Nat.eq_of_beq_eq_true hs
     have hz1 := g8 hs rfl
     subst hz1
     have hne : L1.B ≠ L2.B := fun q => by
      have := hr.inj _ _ _ _ _ _ hg1 hg2 e1 e2 q
      subst this; rw [Nat.beq_refl] at hb; cases hb
     have hm : m2 ≠ 0 := fun q => by subst q; cases hm
     refine ⟨φ, .bool false, w, ?_, φ.le_refl, by simp, hr, Below.refl _ _⟩
     rw [ext_run he, Lib.run_overlaps_apart w t r e ht size hz ⟨L1.B, L1.base + o1, none⟩ ⟨L2.B, L2.base + o2, none⟩ n1 q1 n2 q2 hne y1 y2 x1.size x2.size (by simp [World.shape?, g1]) (by simp [World.shape?, k1']) (by omega) (by simp [World.frozen?, g1]) (by simp [World.frozen?, g1])]
     rfl
    ·cases hk
   ·cases hk
  ·cases hk
 ·cases hk
end
end Go.AX

namespace Go.Proofs.YtlkngpckibidlaaGreat.X
open Go Go.AX
noncomputable section
set_option maxRecDepth 100000
noncomputable abbrev P : Program := Tryz.prog
theorem cf12 (first cap args : List AV) (h : H) : callV P (.func 12 first cap) args h = .enter 12 (first ++ args ++ cap) h := callV_func 12 (by kernel_rfl) first cap args
theorem u23 : P.underlying 23 = some (.pointer 51):= by kernel_rfl
theorem eq23 (h : H) (x y : Operand) (b o : Nat) : binR P h .eql 23 x y (.ptr b o) .nilptr = .val (.bool false) h := b_eqlPn u23 b o
theorem ne23 (h : H) (x y : Operand) (b o : Nat) : binR P h .neq 23 x y (.ptr b o) .nilptr = .val (.bool true) h := b_neqPn u23 b o
theorem en23 (h : H) (x y : Operand) : binR P h .eql 23 x y .nilptr .nilptr = .val (.bool true) h := b_eqlNn u23
theorem nn23 (h : H) (x y : Operand) : binR P h .neq 23 x y .nilptr .nilptr = .val (.bool false) h := b_neqNn u23
theorem ok29 : okT P 29 = true:= by kernel_rfl
theorem ld29 (h : H) (b o : Nat) : loadV P h 29 b o = cellAt h b o := loadV_one (by kernel_rfl) h b o
theorem cf29 (first cap args : List AV) (h : H) : callV P (.func 29 first cap) args h = .enter 29 (first ++ args ++ cap) h := callV_func 29 (by kernel_rfl) first cap args
theorem z47 : zeroA P 47 = some .nilslice:= by kernel_rfl
theorem fa51_0 (b o : Nat) : fieldAddrA P 51 (.ptr b o) 0 = some (.ptr b o):= by kernel_rfl
theorem cf30 (first cap args : List AV) (h : H) : callV P (.func 30 first cap) args h = .enter 30 (first ++ args ++ cap) h := callV_func 30 (by kernel_rfl) first cap args
theorem z55 : zeroA P 55 = some (.agg [.nilslice]):= by kernel_rfl
theorem ok55 : okT P 55 = true:= by kernel_rfl
theorem st55 (h : H) (l : List AV) (hl : l.length = 1) (b o : Nat) : storeV P h 55 b o (.agg l) = h.put b o l := storeV_agg (by kernel_rfl) hl b o
theorem ld55 (h : H) (b o : Nat) : loadV P h 55 b o = aggO (seqO [cellAt h b o]) := ld_agg (k := 0) (by kernel_rfl) (by kernel_rfl) b o
theorem cf31 (first cap args : List AV) (h : H) : callV P (.func 31 first cap) args h = .enter 31 (first ++ args ++ cap) h := callV_func 31 (by kernel_rfl) first cap args
theorem cf32 (first cap args : List AV) (h : H) : callV P (.func 32 first cap) args h = .enter 32 (first ++ args ++ cap) h := callV_func 32 (by kernel_rfl) first cap args
theorem ok47 : okT P 47 = true:= by kernel_rfl
theorem ld47 (h : H) (b o : Nat) : loadV P h 47 b o = cellAt h b o := loadV_one (by kernel_rfl) h b o
theorem bc75_0_1 (p0_0 p1_0 : AV) : buildC P 75 [(0, [p0_0]), (1, [p1_0])] = some (.agg [p0_0, p1_0]):= by kernel_rfl
theorem bs47_1_0 (p0_0 p0_1 : AV) : buildSC P 47 1 [(0, [p0_0, p0_1])] = some (75, [p0_0, p0_1]):= by kernel_rfl
theorem u47 : P.underlying 47 = some (.slice 75):= by kernel_rfl
theorem ap47_47 (h : H) (s : AV) (b o n : Nat) (c : Cap) (ts : List TypeId) (xs : List AV) : builtinA P .append (47 :: 47 :: ts) (s :: .slice b o n c :: xs) h = obs (h.row b o (n * 2)) fun new => appendN 75 2 s n new h := bi_append2 u47 u47 (fun _ q => nomatch q) (by kernel_rfl) s b o n c ts xs
theorem st47 (h : H) (v : AV) (hv : v.cells = [v]) (b o : Nat) : storeV P h 47 b o v = h.put b o [v] := storeV_one (by kernel_rfl) hv b o
theorem fa49_0 (b o : Nat) : fieldAddrA P 49 (.ptr b o) 0 = some (.ptr b o):= by kernel_rfl
theorem cf41 (first cap args : List AV) (h : H) : callV P (.func 41 first cap) args h = .enter 41 (first ++ args ++ cap) h := callV_func 41 (by kernel_rfl) first cap args
theorem ln47 (h : H) (b o n : Nat) (c : Cap) (ts : List TypeId) (xs : List AV) : builtinA P .len (47 :: ts) (.slice b o n c :: xs) h = .val (.int .i64 (.ofNat n)) h := bi_len_slice u47 b o n c ts xs
theorem lm47 (h : H) (ts : List TypeId) (xs : List AV) : builtinA P .len (47 :: ts) (.nilslice :: xs) h = .val (.int .i64 (.ofNat 0)) h := bi_len_nil u47 ts xs
theorem cf37 (first cap args : List AV) (h : H) : callV P (.func 37 first cap) args h = .enter 37 (first ++ args ++ cap) h := callV_func 37 (by kernel_rfl) first cap args
theorem u9 : P.underlying 9 = some (.string):= by kernel_rfl
theorem z83 : zeroA P 83 = some .nilslice:= by kernel_rfl
theorem cf66 (first cap args : List AV) (h : H) : callV P (.func 66 first cap) args h = .enter 66 (first ++ args ++ cap) h := callV_func 66 (by kernel_rfl) first cap args
theorem z87 : zeroA P 87 = some (.agg [(.str []), (.int .u64 (.ofNat 0)), (.int .u64 (.ofNat 0)), (.int .u64 (.ofNat 0)), (.int .u64 (.ofNat 0))]):= by kernel_rfl
theorem ok87 : okT P 87 = true:= by kernel_rfl
theorem st87 (h : H) (l : List AV) (hl : l.length = 5) (b o : Nat) : storeV P h 87 b o (.agg l) = h.put b o l := storeV_agg (by kernel_rfl) hl b o
theorem ok83 : okT P 83 = true:= by kernel_rfl
theorem ld83 (h : H) (b o : Nat) : loadV P h 83 b o = cellAt h b o := loadV_one (by kernel_rfl) h b o
theorem ld87 (h : H) (b o : Nat) : loadV P h 87 b o = aggO (seqO [cellAt h b o, cellAt h b (o + 1), cellAt h b (o + 2), cellAt h b (o + 3), cellAt h b (o + 4)]) := ld_agg (k := 4) (by kernel_rfl) (by kernel_rfl) b o
theorem bs83_1_0 (p0_0 p0_1 p0_2 p0_3 p0_4 : AV) : buildSC P 83 1 [(0, [p0_0, p0_1, p0_2, p0_3, p0_4])] = some (87, [p0_0, p0_1, p0_2, p0_3, p0_4]):= by kernel_rfl
theorem u83 : P.underlying 83 = some (.slice 87):= by kernel_rfl
theorem ap83_83 (h : H) (s : AV) (b o n : Nat) (c : Cap) (ts : List TypeId) (xs : List AV) : builtinA P .append (83 :: 83 :: ts) (s :: .slice b o n c :: xs) h = obs (h.row b o (n * 5)) fun new => appendN 87 5 s n new h := bi_append2 u83 u83 (fun _ q => nomatch q) (by kernel_rfl) s b o n c ts xs
theorem st83 (h : H) (v : AV) (hv : v.cells = [v]) (b o : Nat) : storeV P h 83 b o v = h.put b o [v] := storeV_one (by kernel_rfl) hv b o
theorem cf5 (first cap args : List AV) (h : H) : callV P (.func 5 first cap) args h = .enter 5 (first ++ args ++ cap) h := callV_func 5 (by kernel_rfl) first cap args
theorem cf17 (first cap args : List AV) (h : H) : callV P (.func 17 first cap) args h = .enter 17 (first ++ args ++ cap) h := callV_func 17 (by kernel_rfl) first cap args
theorem cf16 (first cap args : List AV) (h : H) : callV P (.func 16 first cap) args h = .enter 16 (first ++ args ++ cap) h := callV_func 16 (by kernel_rfl) first cap args
theorem cf7 (first cap args : List AV) (h : H) : callV P (.func 7 first cap) args h = .enter 7 (first ++ args ++ cap) h := callV_func 7 (by kernel_rfl) first cap args
theorem cf23 (first cap args : List AV) (h : H) : callV P (.func 23 first cap) args h = .enter 23 (first ++ args ++ cap) h := callV_func 23 (by kernel_rfl) first cap args
theorem cf9 (first cap args : List AV) (h : H) : callV P (.func 9 first cap) args h = .enter 9 (first ++ args ++ cap) h := callV_func 9 (by kernel_rfl) first cap args
theorem fa39_2 (b o : Nat) : fieldAddrA P 39 (.ptr b o) 2 = some (.ptr b (o + 7)):= by kernel_rfl
theorem ok4 : okT P 4 = true:= by kernel_rfl
theorem ld4 (h : H) (b o : Nat) : loadV P h 4 b o = cellAt h b o := loadV_one (by kernel_rfl) h b o
theorem fa39_1 (b o : Nat) : fieldAddrA P 39 (.ptr b o) 1 = some (.ptr b (o + 2)):= by kernel_rfl
theorem fa37_0 (b o : Nat) : fieldAddrA P 37 (.ptr b o) 0 = some (.ptr b o):= by kernel_rfl
theorem ok9 : okT P 9 = true:= by kernel_rfl
theorem ld9 (h : H) (b o : Nat) : loadV P h 9 b o = cellAt h b o := loadV_one (by kernel_rfl) h b o
theorem fa39_0 (b o : Nat) : fieldAddrA P 39 (.ptr b o) 0 = some (.ptr b o):= by kernel_rfl
theorem ok31 : okT P 31 = true:= by kernel_rfl
theorem ld31 (h : H) (b o : Nat) : loadV P h 31 b o = aggO (seqO [cellAt h b o, cellAt h b (o + 1)]) := ld_agg (k := 1) (by kernel_rfl) (by kernel_rfl) b o
theorem cf26 (first cap args : List AV) (h : H) : callV P (.func 26 first cap) args h = .enter 26 (first ++ args ++ cap) h := callV_func 26 (by kernel_rfl) first cap args
theorem ln83 (h : H) (b o n : Nat) (c : Cap) (ts : List TypeId) (xs : List AV) : builtinA P .len (83 :: ts) (.slice b o n c :: xs) h = .val (.int .i64 (.ofNat n)) h := bi_len_slice u83 b o n c ts xs
theorem lm83 (h : H) (ts : List TypeId) (xs : List AV) : builtinA P .len (83 :: ts) (.nilslice :: xs) h = .val (.int .i64 (.ofNat 0)) h := bi_len_nil u83 ts xs
theorem ia83 (b o len : Nat) (cap : Cap) (kd : IntKind) (i : Nat) : indexAddrA P 83 (.slice b o len cap) (.int kd (.ofNat i)) = if i < len then some (.ptr b (o + i * 5)) else none := indexAddr_slice (e := 87) (by kernel_rfl) (by kernel_rfl) (by kernel_rfl) b o len cap kd i
theorem fa87_1 (b o : Nat) : fieldAddrA P 87 (.ptr b o) 1 = some (.ptr b (o + 1)):= by kernel_rfl
theorem bs42_1_0 (p0_0 p0_1 : AV) : buildSC P 42 1 [(0, [p0_0, p0_1])] = some (31, [p0_0, p0_1]):= by kernel_rfl
theorem u42 : P.underlying 42 = some (.slice 31):= by kernel_rfl
theorem ap42_42 (h : H) (s : AV) (b o n : Nat) (c : Cap) (ts : List TypeId) (xs : List AV) : builtinA P .append (42 :: 42 :: ts) (s :: .slice b o n c :: xs) h = obs (h.row b o (n * 2)) fun new => appendN 31 2 s n new h := bi_append2 u42 u42 (fun _ q => nomatch q) (by kernel_rfl) s b o n c ts xs
theorem cf57 (first cap args : List AV) (h : H) : callV P (.func 57 first cap) args h = .enter 57 (first ++ args ++ cap) h := callV_func 57 (by kernel_rfl) first cap args
theorem cf58 (first cap args : List AV) (h : H) : callV P (.func 58 first cap) args h = .enter 58 (first ++ args ++ cap) h := callV_func 58 (by kernel_rfl) first cap args
theorem cf42 (first cap args : List AV) (h : H) : callV P (.func 42 first cap) args h = .enter 42 (first ++ args ++ cap) h := callV_func 42 (by kernel_rfl) first cap args
theorem bc55_ : buildC P 55 [] = some (.agg [.nilslice]):= by kernel_rfl
theorem cf47 (first cap args : List AV) (h : H) : callV P (.func 47 first cap) args h = .enter 47 (first ++ args ++ cap) h := callV_func 47 (by kernel_rfl) first cap args
theorem cf39 (first cap args : List AV) (h : H) : callV P (.func 39 first cap) args h = .enter 39 (first ++ args ++ cap) h := callV_func 39 (by kernel_rfl) first cap args
theorem bc87_ : buildC P 87 [] = some (.agg [(.str []), (.int .u64 (.ofNat 0)), (.int .u64 (.ofNat 0)), (.int .u64 (.ofNat 0)), (.int .u64 (.ofNat 0))]):= by kernel_rfl
theorem cf4 (first cap args : List AV) (h : H) : callV P (.func 4 first cap) args h = .enter 4 (first ++ args ++ cap) h := callV_func 4 (by kernel_rfl) first cap args
theorem bc51_ : buildC P 51 [] = some (.agg [.nilslice]):= by kernel_rfl
theorem cf61 (first cap args : List AV) (h : H) : callV P (.func 61 first cap) args h = .enter 61 (first ++ args ++ cap) h := callV_func 61 (by kernel_rfl) first cap args
theorem cf63 (first cap args : List AV) (h : H) : callV P (.func 63 first cap) args h = .enter 63 (first ++ args ++ cap) h := callV_func 63 (by kernel_rfl) first cap args
theorem z31 : zeroA P 31 = some (.agg [(.int .u64 (.ofNat 0)), (.int .u64 (.ofNat 0))]):= by kernel_rfl
theorem st31 (h : H) (l : List AV) (hl : l.length = 2) (b o : Nat) : storeV P h 31 b o (.agg l) = h.put b o l := storeV_agg (by kernel_rfl) hl b o
theorem bc87_0_1_2_3 (p0_0 p1_0 p1_1 p2_0 p3_0 : AV) : buildC P 87 [(0, [p0_0]), (1, [p1_0, p1_1]), (2, [p2_0]), (3, [p3_0])] = some (.agg [p0_0, p1_0, p1_1, p2_0, p3_0]):= by kernel_rfl
theorem ln9 (h : H) (s : List Nat) (ts : List TypeId) (xs : List AV) : builtinA P .len (9 :: ts) (.str s :: xs) h = .val (.int .i64 (.ofNat s.length)) h := bi_len_str u9 s ts xs
theorem cf48 (first cap args : List AV) (h : H) : callV P (.func 48 first cap) args h = .enter 48 (first ++ args ++ cap) h := callV_func 48 (by kernel_rfl) first cap args
theorem cf18 (first cap args : List AV) (h : H) : callV P (.func 18 first cap) args h = .enter 18 (first ++ args ++ cap) h := callV_func 18 (by kernel_rfl) first cap args
theorem cf24 (first cap args : List AV) (h : H) : callV P (.func 24 first cap) args h = .enter 24 (first ++ args ++ cap) h := callV_func 24 (by kernel_rfl) first cap args
theorem fa37_2 (b o : Nat) : fieldAddrA P 37 (.ptr b o) 2 = some (.ptr b (o + 2)):= by kernel_rfl
theorem fa37_4 (b o : Nat) : fieldAddrA P 37 (.ptr b o) 4 = some (.ptr b (o + 4)):= by kernel_rfl
theorem cf27 (first cap args : List AV) (h : H) : callV P (.func 27 first cap) args h = .enter 27 (first ++ args ++ cap) h := callV_func 27 (by kernel_rfl) first cap args
theorem ln42 (h : H) (b o n : Nat) (c : Cap) (ts : List TypeId) (xs : List AV) : builtinA P .len (42 :: ts) (.slice b o n c :: xs) h = .val (.int .i64 (.ofNat n)) h := bi_len_slice u42 b o n c ts xs
theorem lm42 (h : H) (ts : List TypeId) (xs : List AV) : builtinA P .len (42 :: ts) (.nilslice :: xs) h = .val (.int .i64 (.ofNat 0)) h := bi_len_nil u42 ts xs
theorem cv3_131 (j : IntKind) (n : Int) (h : H) : convR P 3 131 (.int j n) h = .val (.int .u64 (wrapF .u64 n)) h := conv_int (u := .int .i64) (by kernel_rfl) (by kernel_rfl) j n
theorem cf76 (first cap args : List AV) (h : H) : callV P (.func 76 first cap) args h = .enter 76 (first ++ args ++ cap) h := callV_func 76 (by kernel_rfl) first cap args
theorem cf75 (first cap args : List AV) (h : H) : callV P (.func 75 first cap) args h = .enter 75 (first ++ args ++ cap) h := callV_func 75 (by kernel_rfl) first cap args
theorem fa31_0 (b o : Nat) : fieldAddrA P 31 (.ptr b o) 0 = some (.ptr b o):= by kernel_rfl
theorem cf60 (first cap args : List AV) (h : H) : callV P (.func 60 first cap) args h = .enter 60 (first ++ args ++ cap) h := callV_func 60 (by kernel_rfl) first cap args
theorem fa31_1 (b o : Nat) : fieldAddrA P 31 (.ptr b o) 1 = some (.ptr b (o + 1)):= by kernel_rfl
theorem bs132_2_0_1 (p0_0 p1_0 : AV) : buildSC P 132 2 [(0, [p0_0]), (1, [p1_0])] = some (3, [p0_0, p1_0]):= by kernel_rfl
theorem cf59 (first cap args : List AV) (h : H) : callV P (.func 59 first cap) args h = .enter 59 (first ++ args ++ cap) h := callV_func 59 (by kernel_rfl) first cap args
theorem u132 : P.underlying 132 = some (.slice 3):= by kernel_rfl
theorem ln132 (h : H) (b o n : Nat) (c : Cap) (ts : List TypeId) (xs : List AV) : builtinA P .len (132 :: ts) (.slice b o n c :: xs) h = .val (.int .i64 (.ofNat n)) h := bi_len_slice u132 b o n c ts xs
theorem lm132 (h : H) (ts : List TypeId) (xs : List AV) : builtinA P .len (132 :: ts) (.nilslice :: xs) h = .val (.int .i64 (.ofNat 0)) h := bi_len_nil u132 ts xs
theorem ia132 (b o len : Nat) (cap : Cap) (kd : IntKind) (i : Nat) : indexAddrA P 132 (.slice b o len cap) (.int kd (.ofNat i)) = if i < len then some (.ptr b (o + i * 1)) else none := indexAddr_slice (e := 3) (by kernel_rfl) (by kernel_rfl) (by kernel_rfl) b o len cap kd i
theorem ok3 : okT P 3 = true:= by kernel_rfl
theorem ld3 (h : H) (b o : Nat) : loadV P h 3 b o = cellAt h b o := loadV_one (by kernel_rfl) h b o
theorem u3 : P.underlying 3 = some (.int .i64):= by kernel_rfl
theorem cf77 (first cap args : List AV) (h : H) : callV P (.func 77 first cap) args h = .enter 77 (first ++ args ++ cap) h := callV_func 77 (by kernel_rfl) first cap args
theorem cf62 (first cap args : List AV) (h : H) : callV P (.func 62 first cap) args h = .enter 62 (first ++ args ++ cap) h := callV_func 62 (by kernel_rfl) first cap args
theorem ia47 (b o len : Nat) (cap : Cap) (kd : IntKind) (i : Nat) : indexAddrA P 47 (.slice b o len cap) (.int kd (.ofNat i)) = if i < len then some (.ptr b (o + i * 2)) else none := indexAddr_slice (e := 75) (by kernel_rfl) (by kernel_rfl) (by kernel_rfl) b o len cap kd i
theorem fa75_1 (b o : Nat) : fieldAddrA P 75 (.ptr b o) 1 = some (.ptr b (o + 1)):= by kernel_rfl
theorem ok112 : okT P 112 = true:= by kernel_rfl
theorem ld112 (h : H) (b o : Nat) : loadV P h 112 b o = cellAt h b o := loadV_one (by kernel_rfl) h b o
theorem ok75 : okT P 75 = true:= by kernel_rfl
theorem ld75 (h : H) (b o : Nat) : loadV P h 75 b o = aggO (seqO [cellAt h b o, cellAt h b (o + 1)]) := ld_agg (k := 1) (by kernel_rfl) (by kernel_rfl) b o
theorem z75 : zeroA P 75 = some (.agg [(.str []), .nilslice]):= by kernel_rfl
theorem st75 (h : H) (l : List AV) (hl : l.length = 2) (b o : Nat) : storeV P h 75 b o (.agg l) = h.put b o l := storeV_agg (by kernel_rfl) hl b o
theorem fa75_0 (b o : Nat) : fieldAddrA P 75 (.ptr b o) 0 = some (.ptr b o):= by kernel_rfl
theorem cf78 (first cap args : List AV) (h : H) : callV P (.func 78 first cap) args h = .enter 78 (first ++ args ++ cap) h := callV_func 78 (by kernel_rfl) first cap args
theorem cf79 (first cap args : List AV) (h : H) : callV P (.func 79 first cap) args h = .enter 79 (first ++ args ++ cap) h := callV_func 79 (by kernel_rfl) first cap args
theorem cf70 (first cap args : List AV) (h : H) : callV P (.func 70 first cap) args h = .enter 70 (first ++ args ++ cap) h := callV_func 70 (by kernel_rfl) first cap args
theorem cf85 (first cap args : List AV) (h : H) : callV P (.func 85 first cap) args h = .enter 85 (first ++ args ++ cap) h := callV_func 85 (by kernel_rfl) first cap args
theorem cf86 (first cap args : List AV) (h : H) : callV P (.func 86 first cap) args h = .enter 86 (first ++ args ++ cap) h := callV_func 86 (by kernel_rfl) first cap args
theorem cf87 (first cap args : List AV) (h : H) : callV P (.func 87 first cap) args h = .enter 87 (first ++ args ++ cap) h := callV_func 87 (by kernel_rfl) first cap args
theorem cf88 (first cap args : List AV) (h : H) : callV P (.func 88 first cap) args h = .enter 88 (first ++ args ++ cap) h := callV_func 88 (by kernel_rfl) first cap args
theorem cf89 (first cap args : List AV) (h : H) : callV P (.func 89 first cap) args h = .enter 89 (first ++ args ++ cap) h := callV_func 89 (by kernel_rfl) first cap args
theorem cf90 (first cap args : List AV) (h : H) : callV P (.func 90 first cap) args h = .enter 90 (first ++ args ++ cap) h := callV_func 90 (by kernel_rfl) first cap args
theorem ia42 (b o len : Nat) (cap : Cap) (kd : IntKind) (i : Nat) : indexAddrA P 42 (.slice b o len cap) (.int kd (.ofNat i)) = if i < len then some (.ptr b (o + i * 2)) else none := indexAddr_slice (e := 31) (by kernel_rfl) (by kernel_rfl) (by kernel_rfl) b o len cap kd i
theorem cf91 (first cap args : List AV) (h : H) : callV P (.func 91 first cap) args h = .enter 91 (first ++ args ++ cap) h := callV_func 91 (by kernel_rfl) first cap args
theorem cf92 (first cap args : List AV) (h : H) : callV P (.func 92 first cap) args h = .enter 92 (first ++ args ++ cap) h := callV_func 92 (by kernel_rfl) first cap args
theorem cv131_3 (j : IntKind) (n : Int) (h : H) : convR P 131 3 (.int j n) h = .val (.int .i64 (wrapF .i64 n)) h := conv_int (u := .int .u64) (by kernel_rfl) (by kernel_rfl) j n
theorem cf80 (first cap args : List AV) (h : H) : callV P (.func 80 first cap) args h = .enter 80 (first ++ args ++ cap) h := callV_func 80 (by kernel_rfl) first cap args
theorem cf95 (first cap args : List AV) (h : H) : callV P (.func 95 first cap) args h = .enter 95 (first ++ args ++ cap) h := callV_func 95 (by kernel_rfl) first cap args
theorem cf84 (first cap args : List AV) (h : H) : callV P (.func 84 first cap) args h = .enter 84 (first ++ args ++ cap) h := callV_func 84 (by kernel_rfl) first cap args
theorem cv131_147 (j : IntKind) (n : Int) (h : H) : convR P 131 147 (.int j n) h = .val (.int .u32 (wrapF .u32 n)) h := conv_int (u := .int .u64) (by kernel_rfl) (by kernel_rfl) j n
theorem cf93 (first cap args : List AV) (h : H) : callV P (.func 93 first cap) args h = .enter 93 (first ++ args ++ cap) h := callV_func 93 (by kernel_rfl) first cap args
theorem cf94 (first cap args : List AV) (h : H) : callV P (.func 94 first cap) args h = .enter 94 (first ++ args ++ cap) h := callV_func 94 (by kernel_rfl) first cap args
theorem cv147_5 (j : IntKind) (n : Int) (h : H) : convR P 147 5 (.int j n) h = .val (.int .u8 (wrapF .u8 n)) h := conv_int (u := .int .u32) (by kernel_rfl) (by kernel_rfl) j n
theorem cv5_3 (j : IntKind) (n : Int) (h : H) : convR P 5 3 (.int j n) h = .val (.int .i64 (wrapF .i64 n)) h := conv_int (u := .int .u8) (by kernel_rfl) (by kernel_rfl) j n
theorem cv29_5 (j : IntKind) (n : Int) (h : H) : convR P 29 5 (.int j n) h = .val (.int .u8 (wrapF .u8 n)) h := conv_int (u := .int .u64) (by kernel_rfl) (by kernel_rfl) j n
theorem cf3 (first cap args : List AV) (h : H) : callV P (.func 3 first cap) args h = .enter 3 (first ++ args ++ cap) h := callV_func 3 (by kernel_rfl) first cap args
theorem bc28_ : buildC P 28 [] = some (.agg [.nilslice]):= by kernel_rfl
theorem u22 : P.underlying 22 = some (.slice 33):= by kernel_rfl
theorem ln22 (h : H) (b o n : Nat) (c : Cap) (ts : List TypeId) (xs : List AV) : builtinA P .len (22 :: ts) (.slice b o n c :: xs) h = .val (.int .i64 (.ofNat n)) h := bi_len_slice u22 b o n c ts xs
theorem lm22 (h : H) (ts : List TypeId) (xs : List AV) : builtinA P .len (22 :: ts) (.nilslice :: xs) h = .val (.int .i64 (.ofNat 0)) h := bi_len_nil u22 ts xs
theorem ia22 (b o len : Nat) (cap : Cap) (kd : IntKind) (i : Nat) : indexAddrA P 22 (.slice b o len cap) (.int kd (.ofNat i)) = if i < len then some (.ptr b (o + i * 6)) else none := indexAddr_slice (e := 33) (by kernel_rfl) (by kernel_rfl) (by kernel_rfl) b o len cap kd i
theorem ok33 : okT P 33 = true:= by kernel_rfl
theorem ld33 (h : H) (b o : Nat) : loadV P h 33 b o = aggO (seqO [cellAt h b o, cellAt h b (o + 1), cellAt h b (o + 2), cellAt h b (o + 3), cellAt h b (o + 4), cellAt h b (o + 5)]) := ld_agg (k := 5) (by kernel_rfl) (by kernel_rfl) b o
theorem z33 : zeroA P 33 = some (.agg [(.int .i64 (.ofNat 0)), (.str []), (.int .u64 (.ofNat 0)), (.int .u64 (.ofNat 0)), (.int .u64 (.ofNat 0)), (.int .u64 (.ofNat 0))]):= by kernel_rfl
theorem st33 (h : H) (l : List AV) (hl : l.length = 6) (b o : Nat) : storeV P h 33 b o (.agg l) = h.put b o l := storeV_agg (by kernel_rfl) hl b o
theorem fa33_1 (b o : Nat) : fieldAddrA P 33 (.ptr b o) 1 = some (.ptr b (o + 1)):= by kernel_rfl
theorem st9 (h : H) (v : AV) (hv : v.cells = [v]) (b o : Nat) : storeV P h 9 b o v = h.put b o [v] := storeV_one (by kernel_rfl) hv b o
theorem fa33_0 (b o : Nat) : fieldAddrA P 33 (.ptr b o) 0 = some (.ptr b o):= by kernel_rfl
theorem fa33_2 (b o : Nat) : fieldAddrA P 33 (.ptr b o) 2 = some (.ptr b (o + 2)):= by kernel_rfl
theorem cf6 (first cap args : List AV) (h : H) : callV P (.func 6 first cap) args h = .enter 6 (first ++ args ++ cap) h := callV_func 6 (by kernel_rfl) first cap args
theorem cf8 (first cap args : List AV) (h : H) : callV P (.func 8 first cap) args h = .enter 8 (first ++ args ++ cap) h := callV_func 8 (by kernel_rfl) first cap args
theorem fa33_3 (b o : Nat) : fieldAddrA P 33 (.ptr b o) 3 = some (.ptr b (o + 4)):= by kernel_rfl
theorem fa33_4 (b o : Nat) : fieldAddrA P 33 (.ptr b o) 4 = some (.ptr b (o + 5)):= by kernel_rfl
theorem bc37_0_2_4 (p0_0 p2_0 p4_0 : AV) : buildC P 37 [(0, [p0_0]), (2, [p2_0]), (4, [p4_0])] = some (.agg [p0_0, (.str []), p2_0, (.int .u64 (.ofNat 0)), p4_0]):= by kernel_rfl
theorem bc39_0_1_2 (p0_0 p0_1 p1_0 p1_1 p1_2 p1_3 p1_4 p2_0 : AV) : buildC P 39 [(0, [p0_0, p0_1]), (1, [p1_0, p1_1, p1_2, p1_3, p1_4]), (2, [p2_0])] = some (.agg [p0_0, p0_1, p1_0, p1_1, p1_2, p1_3, p1_4, p2_0]):= by kernel_rfl
theorem z39 : zeroA P 39 = some (.agg [(.int .u64 (.ofNat 0)), (.int .u64 (.ofNat 0)), (.str []), (.str []), (.int .u64 (.ofNat 0)), (.int .u64 (.ofNat 0)), (.int .u64 (.ofNat 0)), (.bool false)]):= by kernel_rfl
theorem ok39 : okT P 39 = true:= by kernel_rfl
theorem st39 (h : H) (l : List AV) (hl : l.length = 8) (b o : Nat) : storeV P h 39 b o (.agg l) = h.put b o l := storeV_agg (by kernel_rfl) hl b o
theorem ld39 (h : H) (b o : Nat) : loadV P h 39 b o = aggO (seqO [cellAt h b o, cellAt h b (o + 1), cellAt h b (o + 2), cellAt h b (o + 3), cellAt h b (o + 4), cellAt h b (o + 5), cellAt h b (o + 6), cellAt h b (o + 7)]) := ld_agg (k := 7) (by kernel_rfl) (by kernel_rfl) b o
theorem cf10 (first cap args : List AV) (h : H) : callV P (.func 10 first cap) args h = .enter 10 (first ++ args ++ cap) h := callV_func 10 (by kernel_rfl) first cap args
theorem cf13 (first cap args : List AV) (h : H) : callV P (.func 13 first cap) args h = .enter 13 (first ++ args ++ cap) h := callV_func 13 (by kernel_rfl) first cap args
theorem cf11 (first cap args : List AV) (h : H) : callV P (.func 11 first cap) args h = .enter 11 (first ++ args ++ cap) h := callV_func 11 (by kernel_rfl) first cap args
theorem cf14 (first cap args : List AV) (h : H) : callV P (.func 14 first cap) args h = .enter 14 (first ++ args ++ cap) h := callV_func 14 (by kernel_rfl) first cap args
theorem cf15 (first cap args : List AV) (h : H) : callV P (.func 15 first cap) args h = .enter 15 (first ++ args ++ cap) h := callV_func 15 (by kernel_rfl) first cap args
theorem cf19 (first cap args : List AV) (h : H) : callV P (.func 19 first cap) args h = .enter 19 (first ++ args ++ cap) h := callV_func 19 (by kernel_rfl) first cap args
theorem cf20 (first cap args : List AV) (h : H) : callV P (.func 20 first cap) args h = .enter 20 (first ++ args ++ cap) h := callV_func 20 (by kernel_rfl) first cap args
theorem cf21 (first cap args : List AV) (h : H) : callV P (.func 21 first cap) args h = .enter 21 (first ++ args ++ cap) h := callV_func 21 (by kernel_rfl) first cap args
theorem z62 : zeroA P 62 = some (.agg [.nilslice]):= by kernel_rfl
theorem ok62 : okT P 62 = true:= by kernel_rfl
theorem st62 (h : H) (l : List AV) (hl : l.length = 1) (b o : Nat) : storeV P h 62 b o (.agg l) = h.put b o l := storeV_agg (by kernel_rfl) hl b o
theorem ld62 (h : H) (b o : Nat) : loadV P h 62 b o = aggO (seqO [cellAt h b o]) := ld_agg (k := 0) (by kernel_rfl) (by kernel_rfl) b o
theorem cf22 (first cap args : List AV) (h : H) : callV P (.func 22 first cap) args h = .enter 22 (first ++ args ++ cap) h := callV_func 22 (by kernel_rfl) first cap args
theorem cf25 (first cap args : List AV) (h : H) : callV P (.func 25 first cap) args h = .enter 25 (first ++ args ++ cap) h := callV_func 25 (by kernel_rfl) first cap args
theorem cf28 (first cap args : List AV) (h : H) : callV P (.func 28 first cap) args h = .enter 28 (first ++ args ++ cap) h := callV_func 28 (by kernel_rfl) first cap args
theorem cf33 (first cap args : List AV) (h : H) : callV P (.func 33 first cap) args h = .enter 33 (first ++ args ++ cap) h := callV_func 33 (by kernel_rfl) first cap args
theorem fa28_0 (b o : Nat) : fieldAddrA P 28 (.ptr b o) 0 = some (.ptr b o):= by kernel_rfl
theorem ok26 : okT P 26 = true:= by kernel_rfl
theorem ld26 (h : H) (b o : Nat) : loadV P h 26 b o = cellAt h b o := loadV_one (by kernel_rfl) h b o
theorem u26 : P.underlying 26 = some (.slice 78):= by kernel_rfl
theorem ln26 (h : H) (b o n : Nat) (c : Cap) (ts : List TypeId) (xs : List AV) : builtinA P .len (26 :: ts) (.slice b o n c :: xs) h = .val (.int .i64 (.ofNat n)) h := bi_len_slice u26 b o n c ts xs
theorem lm26 (h : H) (ts : List TypeId) (xs : List AV) : builtinA P .len (26 :: ts) (.nilslice :: xs) h = .val (.int .i64 (.ofNat 0)) h := bi_len_nil u26 ts xs
theorem ia26 (b o len : Nat) (cap : Cap) (kd : IntKind) (i : Nat) : indexAddrA P 26 (.slice b o len cap) (.int kd (.ofNat i)) = if i < len then some (.ptr b (o + i * 2)) else none := indexAddr_slice (e := 78) (by kernel_rfl) (by kernel_rfl) (by kernel_rfl) b o len cap kd i
theorem fa78_1 (b o : Nat) : fieldAddrA P 78 (.ptr b o) 1 = some (.ptr b (o + 1)):= by kernel_rfl
theorem cf34 (first cap args : List AV) (h : H) : callV P (.func 34 first cap) args h = .enter 34 (first ++ args ++ cap) h := callV_func 34 (by kernel_rfl) first cap args
theorem fa62_0 (b o : Nat) : fieldAddrA P 62 (.ptr b o) 0 = some (.ptr b o):= by kernel_rfl
theorem ok60 : okT P 60 = true:= by kernel_rfl
theorem ld60 (h : H) (b o : Nat) : loadV P h 60 b o = cellAt h b o := loadV_one (by kernel_rfl) h b o
theorem u60 : P.underlying 60 = some (.slice 102):= by kernel_rfl
theorem ln60 (h : H) (b o n : Nat) (c : Cap) (ts : List TypeId) (xs : List AV) : builtinA P .len (60 :: ts) (.slice b o n c :: xs) h = .val (.int .i64 (.ofNat n)) h := bi_len_slice u60 b o n c ts xs
theorem lm60 (h : H) (ts : List TypeId) (xs : List AV) : builtinA P .len (60 :: ts) (.nilslice :: xs) h = .val (.int .i64 (.ofNat 0)) h := bi_len_nil u60 ts xs
theorem fa78_0 (b o : Nat) : fieldAddrA P 78 (.ptr b o) 0 = some (.ptr b o):= by kernel_rfl
theorem bc78_0_1 (p0_0 p1_0 : AV) : buildC P 78 [(0, [p0_0]), (1, [p1_0])] = some (.agg [p0_0, p1_0]):= by kernel_rfl
theorem bs26_1_0 (p0_0 p0_1 : AV) : buildSC P 26 1 [(0, [p0_0, p0_1])] = some (78, [p0_0, p0_1]):= by kernel_rfl
theorem ap26_26 (h : H) (s : AV) (b o n : Nat) (c : Cap) (ts : List TypeId) (xs : List AV) : builtinA P .append (26 :: 26 :: ts) (s :: .slice b o n c :: xs) h = obs (h.row b o (n * 2)) fun new => appendN 78 2 s n new h := bi_append2 u26 u26 (fun _ q => nomatch q) (by kernel_rfl) s b o n c ts xs
theorem st26 (h : H) (v : AV) (hv : v.cells = [v]) (b o : Nat) : storeV P h 26 b o v = h.put b o [v] := storeV_one (by kernel_rfl) hv b o
theorem cf36 (first cap args : List AV) (h : H) : callV P (.func 36 first cap) args h = .enter 36 (first ++ args ++ cap) h := callV_func 36 (by kernel_rfl) first cap args
theorem cf38 (first cap args : List AV) (h : H) : callV P (.func 38 first cap) args h = .enter 38 (first ++ args ++ cap) h := callV_func 38 (by kernel_rfl) first cap args
theorem cf35 (first cap args : List AV) (h : H) : callV P (.func 35 first cap) args h = .enter 35 (first ++ args ++ cap) h := callV_func 35 (by kernel_rfl) first cap args
theorem cf40 (first cap args : List AV) (h : H) : callV P (.func 40 first cap) args h = .enter 40 (first ++ args ++ cap) h := callV_func 40 (by kernel_rfl) first cap args
theorem z90 : zeroA P 90 = some (.agg [(.str []), (.int .u64 (.ofNat 0)), (.int .u64 (.ofNat 0)), (.int .u64 (.ofNat 0)), (.int .u64 (.ofNat 0))]):= by kernel_rfl
theorem ok90 : okT P 90 = true:= by kernel_rfl
theorem st90 (h : H) (l : List AV) (hl : l.length = 5) (b o : Nat) : storeV P h 90 b o (.agg l) = h.put b o l := storeV_agg (by kernel_rfl) hl b o
theorem u4 : P.underlying 4 = some (.bool):= by kernel_rfl
theorem eq4 (h : H) (x y : Operand) (a b : Bool) : binR P h .eql 4 x y (.bool a) (.bool b) = .val (.bool (a == b)) h := b_eqlB u4 a b
theorem ne4 (h : H) (x y : Operand) (a b : Bool) : binR P h .neq 4 x y (.bool a) (.bool b) = .val (.bool (!(a == b))) h := b_neqB u4 a b
theorem ld90 (h : H) (b o : Nat) : loadV P h 90 b o = aggO (seqO [cellAt h b o, cellAt h b (o + 1), cellAt h b (o + 2), cellAt h b (o + 3), cellAt h b (o + 4)]) := ld_agg (k := 4) (by kernel_rfl) (by kernel_rfl) b o
theorem bs81_1_0 (p0_0 p0_1 p0_2 p0_3 p0_4 : AV) : buildSC P 81 1 [(0, [p0_0, p0_1, p0_2, p0_3, p0_4])] = some (90, [p0_0, p0_1, p0_2, p0_3, p0_4]):= by kernel_rfl
theorem cf43 (first cap args : List AV) (h : H) : callV P (.func 43 first cap) args h = .enter 43 (first ++ args ++ cap) h := callV_func 43 (by kernel_rfl) first cap args
theorem cf44 (first cap args : List AV) (h : H) : callV P (.func 44 first cap) args h = .enter 44 (first ++ args ++ cap) h := callV_func 44 (by kernel_rfl) first cap args
theorem cf51 (first cap args : List AV) (h : H) : callV P (.func 51 first cap) args h = .enter 51 (first ++ args ++ cap) h := callV_func 51 (by kernel_rfl) first cap args
theorem bc62_ : buildC P 62 [] = some (.agg [.nilslice]):= by kernel_rfl
theorem fa90_1 (b o : Nat) : fieldAddrA P 90 (.ptr b o) 1 = some (.ptr b (o + 1)):= by kernel_rfl
theorem cf64 (first cap args : List AV) (h : H) : callV P (.func 64 first cap) args h = .enter 64 (first ++ args ++ cap) h := callV_func 64 (by kernel_rfl) first cap args
theorem u81 : P.underlying 81 = some (.slice 90):= by kernel_rfl
theorem ln81 (h : H) (b o n : Nat) (c : Cap) (ts : List TypeId) (xs : List AV) : builtinA P .len (81 :: ts) (.slice b o n c :: xs) h = .val (.int .i64 (.ofNat n)) h := bi_len_slice u81 b o n c ts xs
theorem lm81 (h : H) (ts : List TypeId) (xs : List AV) : builtinA P .len (81 :: ts) (.nilslice :: xs) h = .val (.int .i64 (.ofNat 0)) h := bi_len_nil u81 ts xs
theorem ia81 (b o len : Nat) (cap : Cap) (kd : IntKind) (i : Nat) : indexAddrA P 81 (.slice b o len cap) (.int kd (.ofNat i)) = if i < len then some (.ptr b (o + i * 5)) else none := indexAddr_slice (e := 90) (by kernel_rfl) (by kernel_rfl) (by kernel_rfl) b o len cap kd i
theorem ex90 (a0 b0 : List Nat) (a1 b1 : Int) (a2 b2 : Int) (a3 b3 : Int) (a4 b4 : Int) : eqA P 12 90 (.agg [.str a0, .int .u64 a1, .int .u64 a2, .int .u64 a3, .int .u64 a4]) (.agg [.str b0, .int .u64 b1, .int .u64 b2, .int .u64 b3, .int .u64 b4]) = andO (some (listEqB a0 b0)) (andO (andO (some (a1 == b1)) (andO (some (a2 == b2)) (some true))) (andO (some (a3 == b3)) (andO (some (a4 == b4)) (some true)))):= by kernel_rfl
theorem ea90 (h : H) (x y : Operand) (a b : List AV) : binR P h .eql 90 x y (.agg a) (.agg b) = eqO (eqA P 12 90 (.agg a) (.agg b)) h := b_eqlA (by kernel_rfl) a b
theorem na90 (h : H) (x y : Operand) (a b : List AV) : binR P h .neq 90 x y (.agg a) (.agg b) = neO (eqA P 12 90 (.agg a) (.agg b)) h := b_neqA (by kernel_rfl) a b
theorem fa87_0 (b o : Nat) : fieldAddrA P 87 (.ptr b o) 0 = some (.ptr b o):= by kernel_rfl
theorem fa87_2 (b o : Nat) : fieldAddrA P 87 (.ptr b o) 2 = some (.ptr b (o + 3)):= by kernel_rfl
theorem fa87_3 (b o : Nat) : fieldAddrA P 87 (.ptr b o) 3 = some (.ptr b (o + 4)):= by kernel_rfl
theorem bc90_0_1_2_3 (p0_0 p1_0 p1_1 p2_0 p3_0 : AV) : buildC P 90 [(0, [p0_0]), (1, [p1_0, p1_1]), (2, [p2_0]), (3, [p3_0])] = some (.agg [p0_0, p1_0, p1_1, p2_0, p3_0]):= by kernel_rfl
theorem ap81_81 (h : H) (s : AV) (b o n : Nat) (c : Cap) (ts : List TypeId) (xs : List AV) : builtinA P .append (81 :: 81 :: ts) (s :: .slice b o n c :: xs) h = obs (h.row b o (n * 5)) fun new => appendN 90 5 s n new h := bi_append2 u81 u81 (fun _ q => nomatch q) (by kernel_rfl) s b o n c ts xs
theorem fa90_0 (b o : Nat) : fieldAddrA P 90 (.ptr b o) 0 = some (.ptr b o):= by kernel_rfl
theorem cf67 (first cap args : List AV) (h : H) : callV P (.func 67 first cap) args h = .enter 67 (first ++ args ++ cap) h := callV_func 67 (by kernel_rfl) first cap args
theorem cf68 (first cap args : List AV) (h : H) : callV P (.func 68 first cap) args h = .enter 68 (first ++ args ++ cap) h := callV_func 68 (by kernel_rfl) first cap args
theorem bc90_ : buildC P 90 [] = some (.agg [(.str []), (.int .u64 (.ofNat 0)), (.int .u64 (.ofNat 0)), (.int .u64 (.ofNat 0)), (.int .u64 (.ofNat 0))]):= by kernel_rfl
set_option maxRecDepth 100000 in
theorem F : ((((((((type_of% @cf12) ∧ ((type_of% @eq23) ∧ (type_of% @ne23))) ∧ ((type_of% @en23) ∧ ((type_of% @nn23) ∧ (type_of% @ok29)))) ∧ (((type_of% @ld29) ∧ ((type_of% @cf29) ∧ (type_of% @z47))) ∧ (((type_of% @fa51_0) ∧ (type_of% @cf30)) ∧ ((type_of% @z55) ∧ (type_of% @ok55))))) ∧ ((((type_of% @st55) ∧ ((type_of% @ld55) ∧ (type_of% @cf31))) ∧ (((type_of% @cf32) ∧ (type_of% @ok47)) ∧ ((type_of% @ld47) ∧ (type_of% @bc75_0_1)))) ∧ (((type_of% @bs47_1_0) ∧ ((type_of% @ap47_47) ∧ (type_of% @st47))) ∧ (((type_of% @fa49_0) ∧ (type_of% @cf41)) ∧ ((type_of% @ln47) ∧ (type_of% @lm47)))))) ∧ (((((type_of% @cf37) ∧ ((type_of% @z83) ∧ (type_of% @cf66))) ∧ (((type_of% @z87) ∧ (type_of% @ok87)) ∧ ((type_of% @st87) ∧ (type_of% @ok83)))) ∧ (((type_of% @ld83) ∧ ((type_of% @ld87) ∧ (type_of% @bs83_1_0))) ∧ (((type_of% @ap83_83) ∧ (type_of% @st83)) ∧ ((type_of% @cf5) ∧ (type_of% @cf17))))) ∧ ((((type_of% @cf16) ∧ ((type_of% @cf7) ∧ (type_of% @cf23))) ∧ (((type_of% @cf9) ∧ (type_of% @fa39_2)) ∧ ((type_of% @ok4) ∧ (type_of% @ld4)))) ∧ (((type_of% @fa39_1) ∧ ((type_of% @fa37_0) ∧ (type_of% @ok9))) ∧ (((type_of% @ld9) ∧ (type_of% @fa39_0)) ∧ ((type_of% @ok31) ∧ (type_of% @ld31))))))) ∧ ((((((type_of% @cf26) ∧ ((type_of% @ln83) ∧ (type_of% @lm83))) ∧ ((type_of% @ia83) ∧ ((type_of% @fa87_1) ∧ (type_of% @bs42_1_0)))) ∧ (((type_of% @ap42_42) ∧ ((type_of% @cf57) ∧ (type_of% @cf58))) ∧ (((type_of% @cf42) ∧ (type_of% @bc55_)) ∧ ((type_of% @cf47) ∧ (type_of% @cf39))))) ∧ ((((type_of% @bc87_) ∧ ((type_of% @cf4) ∧ (type_of% @bc51_))) ∧ (((type_of% @cf61) ∧ (type_of% @cf63)) ∧ ((type_of% @z31) ∧ (type_of% @st31)))) ∧ (((type_of% @bc87_0_1_2_3) ∧ ((type_of% @ln9) ∧ (type_of% @cf48))) ∧ (((type_of% @cf18) ∧ (type_of% @cf24)) ∧ ((type_of% @fa37_2) ∧ (type_of% @fa37_4)))))) ∧ (((((type_of% @cf27) ∧ ((type_of% @ln42) ∧ (type_of% @lm42))) ∧ (((type_of% @cv3_131) ∧ (type_of% @cf76)) ∧ ((type_of% @cf75) ∧ (type_of% @fa31_0)))) ∧ (((type_of% @cf60) ∧ ((type_of% @fa31_1) ∧ (type_of% @bs132_2_0_1))) ∧ (((type_of% @cf59) ∧ (type_of% @ln132)) ∧ ((type_of% @lm132) ∧ (type_of% @ia132))))) ∧ ((((type_of% @ok3) ∧ ((type_of% @ld3) ∧ (type_of% @cf77))) ∧ (((type_of% @cf62) ∧ (type_of% @ia47)) ∧ ((type_of% @fa75_1) ∧ (type_of% @ok112)))) ∧ (((type_of% @ld112) ∧ ((type_of% @ok75) ∧ (type_of% @ld75))) ∧ (((type_of% @z75) ∧ (type_of% @st75)) ∧ ((type_of% @fa75_0) ∧ (type_of% @cf78)))))))) ∧ (((((((type_of% @cf79) ∧ ((type_of% @cf70) ∧ (type_of% @cf85))) ∧ ((type_of% @cf86) ∧ ((type_of% @cf87) ∧ (type_of% @cf88)))) ∧ (((type_of% @cf89) ∧ ((type_of% @cf90) ∧ (type_of% @ia42))) ∧ (((type_of% @cf91) ∧ (type_of% @cf92)) ∧ ((type_of% @cv131_3) ∧ (type_of% @cf80))))) ∧ ((((type_of% @cf95) ∧ ((type_of% @cf84) ∧ (type_of% @cv131_147))) ∧ (((type_of% @cf93) ∧ (type_of% @cf94)) ∧ ((type_of% @cv147_5) ∧ (type_of% @cv5_3)))) ∧ (((type_of% @cv29_5) ∧ ((type_of% @cf3) ∧ (type_of% @bc28_))) ∧ (((type_of% @ln22) ∧ (type_of% @lm22)) ∧ ((type_of% @ia22) ∧ (type_of% @ok33)))))) ∧ (((((type_of% @ld33) ∧ ((type_of% @z33) ∧ (type_of% @st33))) ∧ (((type_of% @fa33_1) ∧ (type_of% @st9)) ∧ ((type_of% @fa33_0) ∧ (type_of% @fa33_2)))) ∧ (((type_of% @cf6) ∧ ((type_of% @cf8) ∧ (type_of% @fa33_3))) ∧ (((type_of% @fa33_4) ∧ (type_of% @bc37_0_2_4)) ∧ ((type_of% @bc39_0_1_2) ∧ (type_of% @z39))))) ∧ ((((type_of% @ok39) ∧ ((type_of% @st39) ∧ (type_of% @ld39))) ∧ (((type_of% @cf10) ∧ (type_of% @cf13)) ∧ ((type_of% @cf11) ∧ (type_of% @cf14)))) ∧ (((type_of% @cf15) ∧ ((type_of% @cf19) ∧ (type_of% @cf20))) ∧ (((type_of% @cf21) ∧ (type_of% @z62)) ∧ ((type_of% @ok62) ∧ (type_of% @st62))))))) ∧ ((((((type_of% @ld62) ∧ ((type_of% @cf22) ∧ (type_of% @cf25))) ∧ ((type_of% @cf28) ∧ ((type_of% @cf33) ∧ (type_of% @fa28_0)))) ∧ (((type_of% @ok26) ∧ ((type_of% @ld26) ∧ (type_of% @ln26))) ∧ (((type_of% @lm26) ∧ (type_of% @ia26)) ∧ ((type_of% @fa78_1) ∧ (type_of% @cf34))))) ∧ ((((type_of% @fa62_0) ∧ ((type_of% @ok60) ∧ (type_of% @ld60))) ∧ (((type_of% @ln60) ∧ (type_of% @lm60)) ∧ ((type_of% @fa78_0) ∧ (type_of% @bc78_0_1)))) ∧ (((type_of% @bs26_1_0) ∧ ((type_of% @ap26_26) ∧ (type_of% @st26))) ∧ (((type_of% @cf36) ∧ (type_of% @cf38)) ∧ ((type_of% @cf35) ∧ (type_of% @cf40)))))) ∧ (((((type_of% @z90) ∧ ((type_of% @ok90) ∧ (type_of% @st90))) ∧ (((type_of% @eq4) ∧ (type_of% @ne4)) ∧ ((type_of% @ld90) ∧ (type_of% @bs81_1_0)))) ∧ (((type_of% @cf43) ∧ ((type_of% @cf44) ∧ (type_of% @cf51))) ∧ (((type_of% @bc62_) ∧ (type_of% @fa90_1)) ∧ ((type_of% @cf64) ∧ (type_of% @ln81))))) ∧ ((((type_of% @lm81) ∧ ((type_of% @ia81) ∧ (type_of% @ex90))) ∧ (((type_of% @ea90) ∧ (type_of% @na90)) ∧ ((type_of% @fa87_0) ∧ (type_of% @fa87_2)))) ∧ (((type_of% @fa87_3) ∧ ((type_of% @bc90_0_1_2_3) ∧ (type_of% @ap81_81))) ∧ (((type_of% @fa90_0) ∧ (type_of% @cf67)) ∧ ((type_of% @cf68) ∧ (type_of% @bc90_))))))))) :=
 ⟨⟨⟨⟨⟨⟨⟨@cf12, ⟨@eq23, @ne23⟩⟩, ⟨@en23, ⟨@nn23, @ok29⟩⟩⟩, ⟨⟨@ld29, ⟨@cf29, @z47⟩⟩, ⟨⟨@fa51_0, @cf30⟩, ⟨@z55, @ok55⟩⟩⟩⟩, ⟨⟨⟨@st55, ⟨@ld55, @cf31⟩⟩, ⟨⟨@cf32, @ok47⟩, ⟨@ld47, @bc75_0_1⟩⟩⟩, ⟨⟨@bs47_1_0, ⟨@ap47_47, @st47⟩⟩, ⟨⟨@fa49_0, @cf41⟩, ⟨@ln47, @lm47⟩⟩⟩⟩⟩, ⟨⟨⟨⟨@cf37, ⟨@z83, @cf66⟩⟩, ⟨⟨@z87, @ok87⟩, ⟨@st87, @ok83⟩⟩⟩, ⟨⟨@ld83, ⟨@ld87, @bs83_1_0⟩⟩, ⟨⟨@ap83_83, @st83⟩, ⟨@cf5, @cf17⟩⟩⟩⟩, ⟨⟨⟨@cf16, ⟨@cf7, @cf23⟩⟩, ⟨⟨@cf9, @fa39_2⟩, ⟨@ok4, @ld4⟩⟩⟩, ⟨⟨@fa39_1, ⟨@fa37_0, @ok9⟩⟩, ⟨⟨@ld9, @fa39_0⟩, ⟨@ok31, @ld31⟩⟩⟩⟩⟩⟩, ⟨⟨⟨⟨⟨@cf26, ⟨@ln83, @lm83⟩⟩, ⟨@ia83, ⟨@fa87_1, @bs42_1_0⟩⟩⟩, ⟨⟨@ap42_42, ⟨@cf57, @cf58⟩⟩, ⟨⟨@cf42, @bc55_⟩, ⟨@cf47, @cf39⟩⟩⟩⟩, ⟨⟨⟨@bc87_, ⟨@cf4, @bc51_⟩⟩, ⟨⟨@cf61, @cf63⟩, ⟨@z31, @st31⟩⟩⟩, ⟨⟨@bc87_0_1_2_3, ⟨@ln9, @cf48⟩⟩, ⟨⟨@cf18, @cf24⟩, ⟨@fa37_2, @fa37_4⟩⟩⟩⟩⟩, ⟨⟨⟨⟨@cf27, ⟨@ln42, @lm42⟩⟩, ⟨⟨@cv3_131, @cf76⟩, ⟨@cf75, @fa31_0⟩⟩⟩, ⟨⟨@cf60, ⟨@fa31_1, @bs132_2_0_1⟩⟩, ⟨⟨@cf59, @ln132⟩, ⟨@lm132, @ia132⟩⟩⟩⟩, ⟨⟨⟨@ok3, ⟨@ld3, @cf77⟩⟩, ⟨⟨@cf62, @ia47⟩, ⟨@fa75_1, @ok112⟩⟩⟩, ⟨⟨@ld112, ⟨@ok75, @ld75⟩⟩, ⟨⟨@z75, @st75⟩, ⟨@fa75_0, @cf78⟩⟩⟩⟩⟩⟩⟩, ⟨⟨⟨⟨⟨⟨@cf79, ⟨@cf70, @cf85⟩⟩, ⟨@cf86, ⟨@cf87, @cf88⟩⟩⟩, ⟨⟨@cf89, ⟨@cf90, @ia42⟩⟩, ⟨⟨@cf91, @cf92⟩, ⟨@cv131_3, @cf80⟩⟩⟩⟩, ⟨⟨⟨@cf95, ⟨@cf84, @cv131_147⟩⟩, ⟨⟨@cf93, @cf94⟩, ⟨@cv147_5, @cv5_3⟩⟩⟩, ⟨⟨@cv29_5, ⟨@cf3, @bc28_⟩⟩, ⟨⟨@ln22, @lm22⟩, ⟨@ia22, @ok33⟩⟩⟩⟩⟩, ⟨⟨⟨⟨@ld33, ⟨@z33, @st33⟩⟩, ⟨⟨@fa33_1, @st9⟩, ⟨@fa33_0, @fa33_2⟩⟩⟩, ⟨⟨@cf6, ⟨@cf8, @fa33_3⟩⟩, ⟨⟨@fa33_4, @bc37_0_2_4⟩, ⟨@bc39_0_1_2, @z39⟩⟩⟩⟩, ⟨⟨⟨@ok39, ⟨@st39, @ld39⟩⟩, ⟨⟨@cf10, @cf13⟩, ⟨@cf11, @cf14⟩⟩⟩, ⟨⟨@cf15, ⟨@cf19, @cf20⟩⟩, ⟨⟨@cf21, @z62⟩, ⟨@ok62, @st62⟩⟩⟩⟩⟩⟩, ⟨⟨⟨⟨⟨@ld62, ⟨@cf22, @cf25⟩⟩, ⟨@cf28, ⟨@cf33, @fa28_0⟩⟩⟩, ⟨⟨@ok26, ⟨@ld26, @ln26⟩⟩, ⟨⟨@lm26, @ia26⟩, ⟨@fa78_1, @cf34⟩⟩⟩⟩, ⟨⟨⟨@fa62_0, ⟨@ok60, @ld60⟩⟩, ⟨⟨@ln60, @lm60⟩, ⟨@fa78_0, @bc78_0_1⟩⟩⟩, ⟨⟨@bs26_1_0, ⟨@ap26_26, @st26⟩⟩, ⟨⟨@cf36, @cf38⟩, ⟨@cf35, @cf40⟩⟩⟩⟩⟩, ⟨⟨⟨⟨@z90, ⟨@ok90, @st90⟩⟩, ⟨⟨@eq4, @ne4⟩, ⟨@ld90, @bs81_1_0⟩⟩⟩, ⟨⟨@cf43, ⟨@cf44, @cf51⟩⟩, ⟨⟨@bc62_, @fa90_1⟩, ⟨@cf64, @ln81⟩⟩⟩⟩, ⟨⟨⟨@lm81, ⟨@ia81, @ex90⟩⟩, ⟨⟨@ea90, @na90⟩, ⟨@fa87_0, @fa87_2⟩⟩⟩, ⟨⟨@fa87_3, ⟨@bc90_0_1_2_3, @ap81_81⟩⟩, ⟨⟨@fa90_0, @cf67⟩, ⟨@cf68, @bc90_⟩⟩⟩⟩⟩⟩⟩⟩
theorem V {a b : Prop} (x : a) (y : b) : a ∧ b := ⟨x, y⟩
theorem rN {p q r : Prop} (hq : q) (fs : r) (f : r → q → p:= by intro fs hq; (repeat' (first | ((with_reducible refine st1 ?_); (conv => whnf); (with_reducible refine ⟨?_⟩)) | ((with_reducible refine retW_intro rfl ?_); (conv => arg 2; whnf)) | ((with_reducible first | refine iB ?_ ?_ | refine gWt ?_ ?_ | refine gWf ?_ ?_) <;> intro hb <;> (try simp only [hb])) | (simp only [B, F, reduceLT, reduceLeDiff, reduceEqDiff, reduceAdd, reduceMul, reduceSub, ↓reduceIte, eq_self, fs]))); exact hq) : p := f fs hq
theorem rN0 {p q : Prop} (hq : q) (f : q → p:= by intro hq; (repeat' (first | ((with_reducible refine st1 ?_); (conv => whnf); (with_reducible refine ⟨?_⟩)) | ((with_reducible refine retW_intro rfl ?_); (conv => arg 2; whnf)) | ((with_reducible first | refine iB ?_ ?_ | refine gWt ?_ ?_ | refine gWf ?_ ?_) <;> intro hb <;> (try simp only [hb])) | (simp only [B, F, reduceLT, reduceLeDiff, reduceEqDiff, reduceAdd, reduceMul, reduceSub, ↓reduceIte, eq_self]))); exact hq) : p := f hq
theorem rT {p q r : Prop} (hq : q) (fs : r) (f : r → q → p:= by intro fs hq; (repeat' (first | ((with_reducible refine st1 ?_); (conv => whnf); (with_reducible refine ⟨?_⟩)) | ((with_reducible refine st_dw ?_ rfl rfl ?_ ?_); exact rfl; kernel_rfl; (conv => arg 5; whnf); (conv => arg 3; whnf)) | ((with_reducible refine retW_intro rfl ?_); (conv => arg 2; whnf)) | ((with_reducible first | refine iB ?_ ?_ | refine gWt ?_ ?_ | refine gWf ?_ ?_ | refine gXt ?_ ?_ | refine gXf ?_ ?_) <;> intro hb <;> (try simp only [hb])) | ((with_reducible show drawI _ _ _ _ _ _ _ _ _); first | ((with_reducible refine kI_rd ?_ ?_); exact rfl) | ((with_reducible apply kI_rg); exact rfl; exact rfl) | ((with_reducible refine kI_cv ?_ ?_ ?_); exact rfl; kernel_rfl) | ((with_reducible apply kI_al); exact rfl; exact rfl) | ((with_reducible refine kI_ex ?_ ?_ ?_ ?_ ?_); exact rfl; kernel_rfl; exact rfl) | ((with_reducible apply kI_eg); exact rfl; kernel_rfl; exact rfl) | ((with_reducible refine kI_nl ?_ ?_))) | ((with_reducible show eOk _ _ _ _ _ _); first | (exact eok_nil) | (refine ke_rd ?_ ?_ ?_; exact rfl) | (apply ke_rg; exact rfl; exact rfl) | (refine ke_cv ?_ ?_ ?_ ?_; exact rfl; kernel_rfl) | (apply ke_fl; exact rfl) | (apply ke_al; exact rfl; exact rfl)) | ((with_reducible refine freshIs_new ?_); kernel_rfl) | (simp only [B, xB, F, reduceLT, reduceLeDiff, reduceEqDiff, reduceAdd, reduceMul, reduceSub, ↓reduceIte, eq_self, fs]))); exact hq) : p := f fs hq
theorem rT0 {p q : Prop} (hq : q) (f : q → p:= by intro hq; (repeat' (first | ((with_reducible refine st1 ?_); (conv => whnf); (with_reducible refine ⟨?_⟩)) | ((with_reducible refine st_dw ?_ rfl rfl ?_ ?_); exact rfl; kernel_rfl; (conv => arg 5; whnf); (conv => arg 3; whnf)) | ((with_reducible refine retW_intro rfl ?_); (conv => arg 2; whnf)) | ((with_reducible first | refine iB ?_ ?_ | refine gWt ?_ ?_ | refine gWf ?_ ?_ | refine gXt ?_ ?_ | refine gXf ?_ ?_) <;> intro hb <;> (try simp only [hb])) | ((with_reducible show drawI _ _ _ _ _ _ _ _ _); first | ((with_reducible refine kI_rd ?_ ?_); exact rfl) | ((with_reducible apply kI_rg); exact rfl; exact rfl) | ((with_reducible refine kI_cv ?_ ?_ ?_); exact rfl; kernel_rfl) | ((with_reducible apply kI_al); exact rfl; exact rfl) | ((with_reducible refine kI_ex ?_ ?_ ?_ ?_ ?_); exact rfl; kernel_rfl; exact rfl) | ((with_reducible apply kI_eg); exact rfl; kernel_rfl; exact rfl) | ((with_reducible refine kI_nl ?_ ?_))) | ((with_reducible show eOk _ _ _ _ _ _); first | (exact eok_nil) | (refine ke_rd ?_ ?_ ?_; exact rfl) | (apply ke_rg; exact rfl; exact rfl) | (refine ke_cv ?_ ?_ ?_ ?_; exact rfl; kernel_rfl) | (apply ke_fl; exact rfl) | (apply ke_al; exact rfl; exact rfl)) | ((with_reducible refine freshIs_new ?_); kernel_rfl) | (simp only [B, xB, F, reduceLT, reduceLeDiff, reduceEqDiff, reduceAdd, reduceMul, reduceSub, ↓reduceIte, eq_self]))); exact hq) : p := f hq
theorem sT {p : Prop} (h : p:= by first | (simp only [B, xB, F, reduceLT, reduceLeDiff, reduceEqDiff, reduceAdd, reduceMul, reduceSub, ↓reduceIte, eq_self]; done) | (simp only [B, xB, F, reduceLT, reduceLeDiff, reduceEqDiff, reduceAdd, reduceMul, reduceSub, ↓reduceIte, eq_self]; with_reducible assumption)) : p := h
theorem b_lssS {h : H} {t : TypeId} {x y : Operand} (a b : List Nat) : binR P h .lss t x y (.str a) (.str b) = .val (.bool (listLtB a b)) h:= by simp only [binR, apartA, binA, strB, optV]
theorem b_gtrS {h : H} {t : TypeId} {x y : Operand} (a b : List Nat) : binR P h .gtr t x y (.str a) (.str b) = .val (.bool (!(listLtB a b || listEqB a b))) h:= by simp only [binR, apartA, binA, strB, optV]
theorem b_geqS {h : H} {t : TypeId} {x y : Operand} (a b : List Nat) : binR P h .geq t x y (.str a) (.str b) = .val (.bool (!listLtB a b)) h:= by simp only [binR, apartA, binA, strB, optV]
theorem lt_irr : ∀ a : List Nat, listLtB a a = false
 | [] => rfl
 | x :: a => by
  simp only [listLtB]
  have : Nat.blt x x = false:= by rw [← Bool.not_eq_true, Nat.blt_eq]; omega
  rw [this, Nat.beq_refl]; exact lt_irr a
theorem lt_cons (x y : Nat) (a b : List Nat) : listLtB (x :: a) (y :: b) = true ↔ x < y ∨ x = y ∧ listLtB a b = true := by
 simp only [listLtB]
 by_cases h1 : x < y
 ·have : Nat.blt x y = true:= by rw [Nat.blt_eq]; exact h1
  rw [this]; simp [h1]
 ·have : Nat.blt x y = false:= by rw [← Bool.not_eq_true, Nat.blt_eq]; exact h1
  rw [this]
  by_cases h2 : x = y
  ·subst h2; rw [Nat.beq_refl]; simp
  ·have : Nat.beq x y = false := by
    cases hb : Nat.beq x y with
    | false => rfl
    | true => exact absurd (Nat.eq_of_beq_eq_true hb) h2
   rw [this]; simp [h1, h2]
theorem lt_trans : ∀ {a b c : List Nat}, listLtB a b = true → listLtB b c = true → listLtB a c = true
 | a, [], _, h, _ => by cases a <;> cases h
 | [], y :: b, [], _, h => by cases h
 | [], y :: b, z :: c, _, _ => rfl
 | x :: a, y :: b, [], _, h => by cases h
 | x :: a, y :: b, z :: c, h1, h2 => by
  rw [lt_cons] at *
  rcases h1 with h1 | ⟨h1, h1'⟩ <;> rcases h2 with h2 | ⟨h2, h2'⟩
  ·exact .inl (Nat.lt_trans h1 h2)
  ·subst h2; exact .inl h1
  ·subst h1; exact .inl h2
  ·subst h1; subst h2; exact .inr ⟨rfl, lt_trans h1' h2'⟩
theorem lt_tri : ∀ a b : List Nat, listLtB a b = true ∨ a = b ∨ listLtB b a = true
 | [], [] => .inr (.inl rfl)
 | [], _ :: _ => .inl rfl
 | _ :: _, [] => .inr (.inr rfl)
 | x :: a, y :: b => by
  rw [lt_cons, lt_cons]
  rcases Nat.lt_trichotomy x y with h | h | h
  ·exact .inl (.inl h)
  ·subst h
   rcases lt_tri a b with q | q | q
   ·exact .inl (.inr ⟨rfl, q⟩)
   ·subst q; exact .inr (.inl rfl)
   ·exact .inr (.inr (.inr ⟨rfl, q⟩))
  ·exact .inr (.inr (.inl h))
theorem lt_asym {a b : List Nat} (h : listLtB a b = true) : listLtB b a = false := by
 rw [← Bool.not_eq_true]; intro q
 have := lt_trans h q; rw [lt_irr] at this; cases this
theorem nanSC (h : H) (s : List Nat) : PushC P (.enter 95 [.str s] h) (W.Says h (.bool false)) := by
 refine pushC_of_codeW (fn := Tryz.f95) (c := bodyC Tryz.f95) Tryz.func95 rfl ?_
 show codeW P 95 6 none _ _ _ _ _
 refine codeW_root ?_
 have e : decide (s = s) = true := decide_eq_true rfl
 refine rN ?_ (V e<|@Bool.not_true)
 exact ⟨rfl, Only.refl _ _⟩
def cmpS (a b : List Nat) : Int := if listLtB a b then -1 else if a = b then 0 else 1
theorem cmpSC (h : H) (a b : List Nat) : PushC P (.enter 80 [.str a, .str b] h) (W.Says h (.int .i64 (cmpS a b))) := by
 refine pushC_of_codeW (fn := Tryz.f80) (c := bodyC Tryz.f80) Tryz.func80 rfl ?_
 show codeW P 80 20 none _ _ _ _ _
 refine codeW_root ?_
 refine rN0 ?_
 refine ((nanSC h a).call P).mono P ?_
 rintro v h1 ⟨rfl, o1⟩
 refine rN0 ?_
 refine ((nanSC h1 b).call P).mono P ?_
 rintro v h2 ⟨rfl, o2⟩
 have oo := o1.trans o2 (fun _ h => h) (fun _ h => by cases h)
 unfold cmpS
 cases q1 : listLtB a b with
 | true =>
  refine rN ?_ (V q1<|@b_lssS)
  exact ⟨rfl, oo⟩
 | false =>
  by_cases q2 : a = b
  ·subst q2
   have e : listEqB a a = true := (listEqB_iff a a).2 rfl
   rw [if_neg (by simp), if_pos rfl]
   refine rN ?_ (V q1<|V @b_lssS<|V @b_gtrS<|V e<|V @Bool.or_true<|@Bool.not_true)
   exact ⟨rfl, oo⟩
  ·have e : listEqB a b = false := by
    rw [← Bool.not_eq_true, listEqB_iff]; exact q2
   rw [if_neg (by simp), if_neg q2]
   refine rN ?_ (V q1<|V @b_lssS<|V @b_gtrS<|V e<|V @Bool.or_false<|@Bool.not_false)
   exact ⟨rfl, oo⟩
structure Pr where
 key : List Nat
 L : List W.Gn
 v : AV
def prC (p : Pr) : List AV := [.str p.key, p.v]
def prA (p : Pr) : AV := .agg [.str p.key, p.v]
theorem prC_len (p : Pr) : (prC p).length = 2 := rfl
theorem findCmpC (h : H) (p : Pr) (k : List Nat) (hv : p.v.one = true) : PushC P (.enter 79 [prA p, .str k] h) (W.Says h (.int .i64 (cmpS p.key k))) := by
 unfold prA
 refine pushC_of_codeW (fn := Tryz.f79) (c := bodyC Tryz.f79) Tryz.func79 rfl ?_
 show codeW P 79 9 none _ _ _ _ _
 refine codeW_root ?_
 refine rN ?_ (hv)
 refine ((cmpSC _ p.key k).call P).mono P ?_
 rintro v h2 ⟨rfl, o2⟩
 refine rN ?_ (hv)
 exact ⟨rfl, ((Only.refl _ _).new _ _).trans o2 (fun _ h => h) (fun _ h => by cases h)⟩
end
end Go.Proofs.YtlkngpckibidlaaGreat.X

namespace Go.Proofs.YtlkngpckibidlaaGreat.X
open Go Go.AX
noncomputable section
set_option maxRecDepth 100000
variable {N : Nat → Prop}
def Srt (R : List Pr) : Prop := R.Pairwise fun a b => listLtB a.key b.key = true
def atK (k : List Nat) : List Pr → Nat
 | [] => 0
 | p :: R => if listLtB p.key k then atK k R + 1 else 0
theorem atK_le (k : List Nat) : ∀ R, atK k R ≤ R.length
 | [] => Nat.le_refl _
 | p :: R => by unfold atK; have := atK_le k R; split <;> simp <;> omega
theorem at_iff {k : List Nat} : ∀ {R : List Pr}, Srt R → ∀ {i : Nat} {p : Pr}, R[i]? = some p → (listLtB p.key k = true ↔ i < atK k R)
 | [], _, i, p, h => by simp at h
 | q :: R, hs, 0, p, h => by
  simp at h; subst h
  unfold atK
  cases q1 : listLtB q.key k <;> simp
 | q :: R, hs, i + 1, p, h => by
  unfold Srt at hs
  rw [List.pairwise_cons] at hs
  have hp : R[i]? = some p:= by simpa using h
  have ih := at_iff (k := k) hs.2 hp
  unfold atK
  cases q1 : listLtB q.key k with
  | true => rw [ih]; simp
  | false =>
   have := hs.1 p (List.mem_of_getElem? hp)
   constructor
   ·intro q2; rw [lt_trans this q2] at q1; cases q1
   ·intro q2; simp at q2
def isK (k : List Nat) (R : List Pr) : Bool := match R[atK k R]? with | some p => decide (p.key = k) | none => false
theorem cmp_lt {k : List Nat} {R : List Pr} (hs : Srt R) {i : Nat} {p : Pr} (h : R[i]? = some p) : decide (cmpS p.key k < Int.ofNat 0) = decide (i < atK k R) := by
 have := at_iff (k := k) hs h
 unfold cmpS
 by_cases q : listLtB p.key k = true
 ·rw [if_pos q, decide_eq_true (this.1 q)]; rfl
 ·rw [if_neg q, decide_eq_false (fun e => q (this.2 e))]
  split <;> rfl
theorem cmp_eq {k : List Nat} {R : List Pr} (hs : Srt R) {p : Pr} (h : R[atK k R]? = some p) : (cmpS p.key k == Int.ofNat 0) = decide (p.key = k) := by
 have := at_iff (k := k) hs h
 have q : ¬ listLtB p.key k = true := fun e => by have := this.1 e; omega
 unfold cmpS
 rw [if_neg q]
 split
 ·rename_i e; rw [decide_eq_true e]; rfl
 ·rename_i e; rw [decide_eq_false e]; rfl
def prsC (R : List Pr) : List AV := R.flatMap prC
theorem prC_at {h : H} {b o n : Nat} {cap : Cap} {R : List Pr} (hs : SliceAt h (.slice b o n cap) n (prsC R)) {i : Nat} {x : Pr} (hx : R[i]? = some x) :
  cellAt h b (o + i * 2) = some (.str x.key) ∧ cellAt h b (o + (i * 2 + 1)) = some x.v := by
 have hc := fun j (hj : j < 2) => W.sl_cell prC_len hs hx hj
 simp only [Nat.add_assoc] at hc
 exact ⟨hc 0 (by omega), hc 1 (by omega)⟩
structure BsI (h0 : H) (v : AV) (k : List Nat) (R : List Pr) (n : Nat) (ds : List Nat) (tm : T AV) (h : H) (i j : Nat) : Prop where
 ds : ds = []
 nn : n = j - i
 ii : i ≤ atK k R ∧ atK k R ≤ j ∧ j ≤ R.length
 t0 : tm.get 0 = some v
 t1 : tm.get 1 = some (.str k)
 t2 : tm.get 2 = some (.func 79 [] [])
 t8 : tm.get 8 = some (.int .i64 (.ofNat R.length))
 t9 : tm.get 9 = some (.int .i64 (.ofNat i))
 t10 : tm.get 10 = some (.int .i64 (.ofNat j))
 oo : Only h0 h []
theorem shr1 {h : H} {t : TypeId} {x y : Operand} (k2 : IntKind) (m : Nat) : binR P h .shr t x y (.int .u64 (.ofNat m)) (.int k2 (.ofNat 1)) = .val (.int .u64 (.ofNat (m / 2))) h := by
 have e : min 1 64 = 1 := rfl
 have e2 : (Int.ofNat m).fdiv (Int.ofNat (2 ^ 1)) = Int.ofNat (m / 2 ^ 1) := (Int.ofNat_fdiv m (2 ^ 1)).symm
 simp only [binR, apartA, binA, shiftB, optV, forceInt_eq, show IntKind.bits .u64 = 64 from rfl, e, e2]
theorem bsC (h : H) (v : AV) (k : List Nat) (R : List Pr) (hs : SliceAt h v R.length (prsC R)) (hv : ∀ p, p ∈ R → p.v.one = true) (hsr : Srt R) (hz : R.length ≤ 100000) :
  PushC P (.enter 78 [v, .str k, .func 79 [] []] h) (W.Says h (.tuple [.int .i64 (.ofNat (atK k R)), .bool (isK k R)])) := by
 have hso := W.SliceAt.one hs
 have hlen := hs.len (P := P) u47
 have hle := atK_le k R
 have cf79 := fun args h => callV_func (P := P) 82 (by kernel_rfl) [] [] args (h := h)
 refine pushC_of_codeW (fn := Tryz.f78) (c := bodyC Tryz.f78) Tryz.func78 rfl ?_
 show codeW P 78 49 none _ _ _ _ _
 refine codeW_root ?_
 refine rN ?_ (V hso<|hlen)
 refine st_loop (fun n ds tm h' => ∃ i j, BsI h v k R n ds tm h' i j) R.length rfl ⟨0, R.length, rfl, rfl, ⟨Nat.zero_le _, hle, Nat.le_refl _⟩, by exact sT, by exact sT, by exact sT, by exact sT, by exact sT, by exact sT, Only.refl _ _⟩ (fun n ds tm h' hI => ?_)
 obtain ⟨i, j, rfl, rfl, ⟨i1, i2, i3⟩, t0, t1, t2, t8, t9, t10, oo⟩ := hI
 have hsh := hs.only oo (fun _ _ => by simp)
 by_cases hij : i < j
 ·have d1 : decide (i < j) = true := decide_eq_true hij
  obtain ⟨m, hm⟩ : ∃ m, m = (i + j) / 2 := ⟨_, rfl⟩
  have w1 : wrapF .i64 (Int.ofNat i + Int.ofNat j) = Int.ofNat (i + j) := i64_add (by omega)
  have w2 : wrapF .u64 (Int.ofNat (i + j)) = Int.ofNat (i + j) := W.u64_nat (by omega)
  have w3 : wrapF .i64 (Int.ofNat ((i + j) / 2)) = Int.ofNat m:= by rw [hm]; exact W.i64_nat (by omega)
  have lt1 : (m < R.length) = True:= by simp; omega
  obtain ⟨p, hp⟩ : ∃ p, R[m]? = some p := ⟨_, List.getElem?_eq_getElem (by omega)⟩
  obtain ⟨b, o, cap, rfl, hb, -⟩ := hsh.place (by omega)
  obtain ⟨p0, p1⟩ := prC_at hsh hp
  have hpv := hv p (List.mem_of_getElem? hp)
  have hc := cmp_lt (k := k) hsr hp
  repeat' (first | ((with_reducible refine st1 ?_); (conv => whnf); (with_reducible refine ⟨?_⟩)) | ((with_reducible refine retW_intro rfl ?_); (conv => arg 2; whnf)) | ((with_reducible first | refine iB ?_ ?_ | refine gWt ?_ ?_ | refine gWf ?_ ?_) <;> intro hb <;> (try simp only [hb])) | (simp only [B, F, reduceLT, reduceLeDiff, reduceEqDiff, reduceAdd, reduceMul, reduceSub, ↓reduceIte, eq_self, t0, t1, t2, t8, t9, t10, d1, w1, w2, w3, shr1, lt1, p0, p1, cf79, List.nil_append, List.append_nil]))
  refine ((findCmpC h' p k hpv).call P).mono P ?_
  rintro v h2 ⟨rfl, o2⟩
  cases q : decide (m < atK k R) with
  | true =>
   rw [q] at hc
   have := of_decide_eq_true q
   have w4 : wrapF .i64 (Int.ofNat m + Int.ofNat 1) = Int.ofNat (m + 1) := i64_add (by omega)
   refine rN ?_ (V t0<|V t1<|V t2<|V t8<|V t9<|V t10<|V hc<|w4)
   exact ⟨j - (m + 1), by omega, m + 1, j, rfl, rfl, ⟨by omega, by omega, by omega⟩, by exact sT, by exact sT, by exact sT, by exact sT, by exact sT, by exact sT, oo.t o2⟩
  | false =>
   rw [q] at hc
   have := of_decide_eq_false q
   refine rN ?_ (V t0<|V t1<|V t2<|V t8<|V t9<|V t10<|hc)
   exact ⟨m - i, by omega, i, m, rfl, rfl, ⟨by omega, by omega, by omega⟩, by exact sT, by exact sT, by exact sT, by exact sT, by exact sT, by exact sT, oo.t o2⟩
 ·have d1 : decide (i < j) = false := decide_eq_false hij
  obtain rfl : i = atK k R:= by omega
  cases q : decide (atK k R < R.length) with
  | true =>
   have hat := of_decide_eq_true q
   have lt1 : (atK k R < R.length) = True:= by simp [hat]
   obtain ⟨p, hp⟩ : ∃ p, R[atK k R]? = some p := ⟨_, List.getElem?_eq_getElem hat⟩
   obtain ⟨b, o, cap, rfl, hb, -⟩ := hsh.place (by omega)
   obtain ⟨p0, p1⟩ := prC_at hsh hp
   have hpv := hv p (List.mem_of_getElem? hp)
   have hc := cmp_eq hsr hp
   have hk : isK k R = decide (p.key = k):= by unfold isK; rw [hp]
   repeat' (first | ((with_reducible refine st1 ?_); (conv => whnf); (with_reducible refine ⟨?_⟩)) | ((with_reducible refine retW_intro rfl ?_); (conv => arg 2; whnf)) | ((with_reducible first | refine iB ?_ ?_ | refine gWt ?_ ?_ | refine gWf ?_ ?_) <;> intro hb <;> (try simp only [hb])) | (simp only [B, F, reduceLT, reduceLeDiff, reduceEqDiff, reduceAdd, reduceMul, reduceSub, ↓reduceIte, eq_self, t0, t1, t2, t8, t9, t10, d1, q, lt1, p0, p1, cf79, List.nil_append, List.append_nil]))
   refine ((findCmpC h' p k hpv).call P).mono P ?_
   rintro v h2 ⟨rfl, o2⟩
   refine rN ?_ (V t0<|V t1<|V t2<|V t8<|V t9<|V t10<|hc)
   exact ⟨by rw [hk], oo.t o2⟩
  | false =>
   have hat := of_decide_eq_false q
   have hk : isK k R = false:= by unfold isK; rw [List.getElem?_eq_none (by omega)]
   refine rN ?_ (V t0<|V t1<|V t2<|V t8<|V t9<|V t10<|V d1<|q)
   exact ⟨by rw [hk], oo⟩
structure offI (N : Nat → Prop) (b : Nat) (s : AV) (c : Nat) : Prop where
 nb : c ≠ b
 ns : blkOf s ≠ some c
 fl : N c
structure IxAt (N : Nat → Prop) (h : H) (b : Nat) (R : List Pr) (s : AV) : Prop where
 lt : b < h.nx
 c0 : cellAt h b 0 = some s
 sl : SliceAt h s R.length (prsC R)
 gg : ∀ p, p ∈ R → W.GensP (offI N b s) h (.agg [p.v]) p.L
 sr : Srt R
 zz : R.length ≤ 100000
 fl : ∀ c, h.nx ≤ c → N c
theorem IxAt.one {h : H} {b : Nat} {R : List Pr} {s : AV} (hx : IxAt N h b R s) : ∀ p, p ∈ R → p.v.one = true := fun p hp => by
 obtain ⟨_, e, ho, _⟩ := (hx.gg p hp).val; cases e; exact ho
theorem IxAt.keep {h h' : H} {b : Nat} {R : List Pr} {s : AV} (hx : IxAt N h b R s) (ho : Only h h' []) : IxAt N h' b R s :=
 ⟨Nat.lt_of_lt_of_le hx.lt ho.1, W.kcell hx.c0 ho hx.lt (by simp), hx.sl.only ho (fun _ _ => by simp), fun p hp => (hx.gg p hp).keep0 ho, hx.sr, hx.zz, fun c hc => hx.fl c (Nat.le_trans ho.1 hc)⟩
theorem findC (h : H) (b : Nat) (k : List Nat) (R : List Pr) (s : AV) (hx : IxAt N h b R s) : PushC P (.enter 62 [.ptr b 0, .str k] h) (W.Says h (.tuple [.int .i64 (.ofNat (atK k R)), .bool (isK k R)])) := by
 have c0 := hx.c0
 have hso := W.SliceAt.one hx.sl
 refine pushC_of_codeW (fn := Tryz.f62) (c := bodyC Tryz.f62) Tryz.func62 rfl ?_
 show codeW P 62 14 none _ _ _ _ _
 refine codeW_root ?_
 refine rN ?_ (V c0<|hso)
 refine ((bsC h s k R hx.sl hx.one hx.sr hx.zz).call P).mono P ?_
 rintro v h2 ⟨rfl, o2⟩
 refine rN0 ?_
 exact ⟨rfl, o2⟩
def getL (k : List Nat) (R : List Pr) : List W.Gn := match R[atK k R]? with | some p => if p.key = k then p.L else [] | none => []
theorem getC (qq : Nat → Prop) (h : H) (b : Nat) (k : List Nat) (R : List Pr) (s : AV) (hx : IxAt N h b R s) (hq : ∀ p, p ∈ R → W.GensP qq h (.agg [p.v]) p.L) : PushC P (.enter 47 [.ptr b 0, .str k] h) fun v h' => Only h h' [] ∧ ∃ g, v = .agg [g] ∧ W.GensP qq h' (.agg [g]) (getL k R) ∧ (∀ c, blkOf g = some c → c < h.nx) := by
 have c0 := hx.c0
 have hso := W.SliceAt.one hx.sl
 refine pushC_of_codeW (fn := Tryz.f47) (c := bodyC Tryz.f47) Tryz.func47 rfl ?_
 show codeW P 47 23 none _ _ _ _ _
 refine codeW_root ?_
 refine rN0 ?_
 obtain ⟨h1, h1e⟩ : ∃ h1, h1 = h.newCells 55 [.nilslice] := ⟨_, rfl⟩
 have o1 : Only h h1 []:= by rw [h1e]; exact (Only.refl _ _).new _ _
 have x1 : h1.nx = h.nx + 1:= by rw [h1e]; rfl
 have z0 : cellAt h1 h.nx 0 = some .nilslice:= by rw [h1e]; exact sT
 have zw : wrAt h1 h.nx = true:= by rw [h1e]; exact sT
 have hx1 := hx.keep o1
 rw [← h1e]
 refine ((findC h1 b k R s hx1).call P).mono P ?_
 rintro v h2 ⟨rfl, o2⟩
 have hx2 := hx1.keep o2
 have c2 := hx2.c0
 have oo := o1.t o2
 have xo2 := o2.1
 have z2 := W.kcell z0 o2 (by omega) (by simp)
 have w2 := W.kwr zw o2 (by omega) (by simp)
 have hbl := hx.lt
 cases q : isK k R with
 | false =>
  have hg : getL k R = [] := by
   unfold getL; unfold isK at q
   split
   ·rename_i p hp; rw [hp] at q; simp only [decide_eq_false_iff_not] at q; rw [if_neg q]
   ·rfl
  have one0 : AV.one .nilslice = true := rfl
  repeat' (first | ((with_reducible refine st1 ?_); (conv => whnf); (with_reducible refine ⟨?_⟩)) | ((with_reducible refine retW_intro rfl ?_); (conv => arg 2; whnf)) | ((with_reducible first | refine iB ?_ ?_ | refine gWt ?_ ?_ | refine gWf ?_ ?_) <;> intro hb <;> (try simp only [hb])) | (simp only [B, F, reduceLT, reduceLeDiff, reduceEqDiff, reduceAdd, reduceMul, reduceSub, ↓reduceIte, eq_self, z2, w2, put_sts, cellAt_sts w2, one0]))
  refine ⟨oo.sts (.inr (Nat.le_refl _)), .nilslice, rfl, ?_, fun c q => by cases q⟩
  rw [hg]; exact W.GensP.nil _ _
 | true =>
  have hat : atK k R < R.length := by
   unfold isK at q
   split at q
   ·rename_i p hp; exact (List.getElem?_eq_some_iff.1 hp).1
   ·cases q
  obtain ⟨p, hp⟩ : ∃ p, R[atK k R]? = some p := ⟨_, List.getElem?_eq_getElem hat⟩
  have hk : p.key = k:= by unfold isK at q; rw [hp] at q; simpa using q
  have hg : getL k R = p.L:= by unfold getL; rw [hp]; simp only; rw [if_pos hk]
  have hpm := List.mem_of_getElem? hp
  have lt1 : (atK k R < R.length) = True:= by simp [hat]
  obtain ⟨bl, o, cap, rfl, hb, -⟩ := hx.sl.place (by omega)
  obtain ⟨p0, p1⟩ := prC_at hx2.sl hp
  have hpo := hx.one p hpm
  obtain ⟨_, e, -, hpc⟩ := (hx.gg p hpm).val
  cases e
  have hbk : ∀ c, blkOf p.v = some c → c < h.nx := fun c q => by
   obtain ⟨_, X, e, -, hh, -⟩ := hx.gg p hpm
   cases e; exact hh.1.blk c q
  obtain ⟨h3, h3e⟩ : ∃ h3, h3 = h2.sts h.nx 0 [p.v] := ⟨_, rfl⟩
  have w3 : wrAt h3 h.nx = true:= by rw [h3e, wrAt_sts]; exact w2
  have c3 : cellAt h3 h.nx 0 = some p.v:= by rw [h3e]; simp only [B, F, reduceLT, reduceLeDiff, reduceEqDiff, reduceAdd, reduceMul, reduceSub, ↓reduceIte, eq_self, cellAt_sts w2]
  have o3 : Only h h3 []:= by rw [h3e]; exact oo.sts (.inr (Nat.le_refl _))
  have o4 : Only h (h3.sts h.nx 0 [p.v]) [] := o3.sts (.inr (Nat.le_refl _))
  repeat' (first | ((with_reducible refine st1 ?_); (conv => whnf); (with_reducible refine ⟨?_⟩)) | ((with_reducible refine retW_intro rfl ?_); (conv => arg 2; whnf)) | ((with_reducible first | refine iB ?_ ?_ | refine gWt ?_ ?_ | refine gWf ?_ ?_) <;> intro hb <;> (try simp only [hb])) | (simp only [B, F, reduceLT, reduceLeDiff, reduceEqDiff, reduceAdd, reduceMul, reduceSub, ↓reduceIte, eq_self, c2, lt1, p1, hpo, hpc, z2, w2, put_sts, ← h3e, c3, w3, cellAt_sts w3]))
  exact ⟨o4, p.v, rfl, by rw [hg]; exact (hq p hpm).keep0 o4, hbk⟩
end
end Go.Proofs.YtlkngpckibidlaaGreat.X

namespace Go.AX
noncomputable section
open Go.RowKit
section
variable {P : Program} {h : H} {tm : T AV}
theorem ex_sl_l (t : TypeId) (x a : Operand) : execA P tm h (.slice t x (some a) none none) = ob (evalA tm x) fun v => ob (evalA tm a) fun l => ob (sliceA P t v (some l) none none) fun v => .val v h := by
 simp only [execA, evalO]
 cases evalA tm x with
 | none => cases evalA tm a <;> rfl
 | some v =>
  cases evalA tm a with
  | none => rfl
  | some l => simp only [ob]; cases sliceA P t v (some l) none none <;> rfl
theorem ex_sl_h (t : TypeId) (x a : Operand) : execA P tm h (.slice t x none (some a) none) = ob (evalA tm x) fun v => ob (evalA tm a) fun l => ob (sliceA P t v none (some l) none) fun v => .val v h := by
 simp only [execA, evalO]
 cases evalA tm x with
 | none => cases evalA tm a <;> rfl
 | some v =>
  cases evalA tm a with
  | none => rfl
  | some l => simp only [ob]; cases sliceA P t v none (some l) none <;> rfl
theorem ble_t {a b : Nat} (h : a ≤ b) : Nat.ble a b = true:= by rw [Nat.ble_eq]; exact h
theorem ble_f {a b : Nat} (h : b < a) : Nat.ble a b = false:= by rw [← Bool.not_eq_true, Nat.ble_eq]; omega
theorem beq_f {a b : Nat} (h : a ≠ b) : Nat.beq a b = false := by
 cases q : Nat.beq a b with
 | false => rfl
 | true => exact absurd (Nat.eq_of_beq_eq_true q) h
theorem sl_ex_l {t e : TypeId} {size : Nat} (hu : P.underlying t = some (.slice e)) (hok : okT P e = true) (hsz : P.cellsOf e = size) (b o len c l : Nat) (kd : IntKind) (hl : l ≤ len) :
  sliceA P t (.slice b o len (.exact c)) (some (.int kd (.ofNat l))) none none = some (.slice b (if c = l then o else o + l * size) (len - l) (.exact (c - l))) := by
 simp only [sliceA, hu, hok, sliceEx, bndO, bnd, ble_t hl, Option.isSome, Bool.false_and, hsz]
 by_cases q : c = l
 ·subst q; rw [Nat.beq_refl, if_pos rfl]
 ·rw [beq_f q, if_neg q]
theorem sl_ex_h {t e : TypeId} (hu : P.underlying t = some (.slice e)) (hok : okT P e = true) (b o len c l : Nat) (kd : IntKind) (hl : l ≤ c) :
  sliceA P t (.slice b o len (.exact c)) none (some (.int kd (.ofNat l))) none = some (.slice b o l (.exact c)) := by
 simp only [sliceA, hu, hok, sliceEx, bndO, bnd, ble_t hl, Option.isSome, Option.isNone, Bool.and_false, Nat.sub_zero, Nat.zero_mul, Nat.add_zero]
 cases Nat.beq c 0 <;> rfl
theorem sl_op_l {t e : TypeId} {size : Nat} (hu : P.underlying t = some (.slice e)) (hok : okT P e = true) (hsz : P.cellsOf e = size) (b o len i l : Nat) (kd : IntKind) (hl : l < len) :
  sliceA P t (.slice b o len (.opn i)) (some (.int kd (.ofNat l))) none none = some (.slice b (o + l * size) (len - l) (.opn (i + l))) := by
 simp only [sliceA, hu, hok, sliceOp, bndO, bnd, ble_t (show l ≤ len by omega), hsz]
 by_cases q : l = 0
 ·subst q; rw [Nat.beq_refl]; simp
 ·rw [beq_f q, ble_t (show l + 1 ≤ len by omega)]
theorem bi_cap_ex {t e : TypeId} (hu : P.underlying t = some (.slice e)) (b o n c : Nat) (ts : List TypeId) (xs : List AV) : builtinA P .cap (t :: ts) (.slice b o n (.exact c) :: xs) h = .val (.int .i64 (.ofNat c)) h := by
 simp only [builtinA, capA, hu]
theorem put_any {b o m : Nat} {t : T AV} {k : EK} {l : List AV} (hb : h.t.get b = some (.cells m t k false)) (ho : allOne l = true) (hm : o + l.length ≤ m) :
  ∃ t', h.put b o l = some { h with t := h.t.set b (some (.cells m t' k false)) } ∧ ∀ j, t'.get j = if o ≤ j ∧ j < o + l.length then l[j - o]? else t.get j := by
 unfold H.put
 rw [hb]
 simp only
 cases q : H.putRow t o l with
 | some t' => exact ⟨t', rfl, (putRow_get q).1⟩
 | none =>
  have : (allOne l && Nat.ble (o + lenL l) m) = true:= by rw [Bool.and_eq_true, lenL_eq]; exact ⟨ho, ble_t hm⟩
  simp only [this]
  exact ⟨_, rfl, fun j => T.get_fill_at l t o j⟩
def RowB (h : H) (b m size ty : Nat) (cs : List AV) : Prop := b < h.nx ∧ ∃ t, h.t.get b = some (.cells m t ⟨size, ty⟩ false) ∧ ∀ j, j < cs.length → t.get j = cs[j]?
theorem RowB.row {b m size ty : Nat} {cs : List AV} (hr : RowB h b m size ty cs) {o n : Nat} (hn : o + n ≤ cs.length) (h0 : 0 < n) : h.row b o n = some ((cs.drop o).take n) := by
 obtain ⟨-, t, hg, ht⟩ := hr
 have hl : ((cs.drop o).take n).length = n:= by rw [List.length_take, List.length_drop]; omega
 have hne : (cs.drop o).take n ≠ [] := fun e => by rw [e] at hl; simp at hl; omega
 have := row_ok (h := h) (b := b) (o := o) (cs := (cs.drop o).take n) (fun i hi => by
  unfold cellAt; rw [hg]
  simp only
  rw [ht _ (by omega), List.getElem?_take, if_pos (by omega), List.getElem?_drop]) hne
 rwa [hl] at this
theorem exW_xcopy {t e : TypeId} {ts : List TypeId} {size : Nat} {bd od nd : Nat} {cd : Cap} {bs os ns : Nat} {cs : Cap} {l : List AV} {md : Nat} {td : T AV} {kd : EK} {n : Nat} {xs : List AV} {K : AV → H → Prop} (hu : P.underlying t = some (.slice e)) (hok : okT P e = true) (hsz : P.cellsOf e = size)
  (hn : Nat.min ns nd = n) (hr : h.row bs os (n * size) = some l) (hb : h.t.get bd = some (.cells md td kd false)) (ho : allOne l = true) (hm : od + l.length ≤ md)
  (hk : ∀ t', (∀ j, t'.get j = if od ≤ j ∧ j < od + l.length then l[j - od]? else td.get j) → K (.int .i64 (.ofNat n)) { h with t := h.t.set bd (some (.cells md t' kd false)) }) :
  exW P (builtinA P .copy (t :: ts) (.slice bd od nd cd :: .slice bs os ns cs :: xs) h) K := by
 obtain ⟨t', hp, ht⟩ := put_any hb ho hm
 have : builtinA P .copy (t :: ts) (.slice bd od nd cd :: .slice bs os ns cs :: xs) h = .val (.int .i64 (.ofNat n)) { h with t := h.t.set bd (some (.cells md t' kd false)) } := by
  simp only [builtinA, hu, copyA, lenOfA, hn, srcA, hsz, hr, hok, hp]
 rw [this]
 exact hk t' ht
theorem exW_xplace {elem : TypeId} {size b o n q c m : Nat} {t : T AV} {k : EK} {new : List AV} {K : AV → H → Prop} (hq : n + q ≤ c) (hl : new.length = q * size) (hb : h.t.get b = some (.cells m t k false)) (hm : o + (n + q) * size ≤ m) (ho : allOne new = true)
  (hk : ∀ t', (∀ j, t'.get j = if o + n * size ≤ j ∧ j < o + n * size + new.length then new[j - (o + n * size)]? else t.get j) → K (.slice b o (n + q) (.exact c)) { h with t := h.t.set b (some (.cells m t' k false)) }) :
  exW P (appendN elem size (.slice b o n (.exact c)) q new h) K := by
 have e : (n + q) * size = n * size + q * size := Nat.add_mul _ _ _
 obtain ⟨t', hp, ht⟩ := put_any (o := o + n * size) hb ho (by omega)
 have e1 : Nat.beq (lenL new) (q * size) = true:= by rw [lenL_eq, hl, Nat.beq_refl]
 have : appendN elem size (.slice b o n (.exact c)) q new h = .val (.slice b o (n + q) (.exact c)) { h with t := h.t.set b (some (.cells m t' k false)) } := by
  unfold appendN; simp only [e1, ble_t hq, hp]
 rw [this]
 exact hk t' ht
theorem exW_xgrow {elem : TypeId} {size b o n q c : Nat} {old new : List AV} {K : AV → H → Prop} (hq : c < n + q) (hl : new.length = q * size) (hs : n + q ≤ 4194304) (hr : h.row b o (n * size) = some old)
  (hk : K (.slice h.nx 0 (n + q) (.opn 0)) (h.grown none ⟨size, elem + 1⟩ (old ++ new))) : exW P (appendN elem size (.slice b o n (.exact c)) q new h) K := by
 have e1 : Nat.beq (lenL new) (q * size) = true:= by rw [lenL_eq, hl, Nat.beq_refl]
 have e2 : small (n + q) = true:= by unfold small; exact ble_t hs
 have : appendN elem size (.slice b o n (.exact c)) q new h = .val (.slice h.nx 0 (n + q) (.opn 0)) (h.grown none ⟨size, elem + 1⟩ (old ++ new)) := by
  unfold appendN; simp only [e1, ble_f hq, e2, hr]
 rw [this]; exact hk
theorem grown_none {k : EK} {l : List AV} (b : Nat) : (h.grown none k l).t.get b = if b = h.nx then some (.cells l.length (T.ofRow l) k false) else h.t.get b := by
 by_cases q : b = h.nx
 ·subst q; rw [if_pos rfl, grownL_new]
 ·rw [if_neg q]; unfold H.grown; simp only [T.get_set]; rw [if_neg q]
theorem grown_only {k : EK} {l : List AV} : Only h (h.grown none k l) [] := ⟨by rw [grownL_nx]; omega, fun b hb _ => by rw [grown_none, if_neg (by omega)]⟩
end
end
end Go.AX

namespace Go.Proofs.YtlkngpckibidlaaGreat.X
open Go Go.AX
noncomputable section
set_option maxRecDepth 100000
inductive RowV (h : H) : AV → Nat → List AV → Prop
 | nil : RowV h .nilslice 0 []
 | opn (b n m ty : Nat) (cs : List AV) : 0 < n → cs.length = n * 2 → n * 2 ≤ m → RowB h b m 2 ty cs → RowV h (.slice b 0 n (.opn 0)) n cs
 | exa (b n c ty : Nat) (cs : List AV) : 0 < n → cs.length = n * 2 → n ≤ c → RowB h b (c * 2) 2 ty cs → RowV h (.slice b 0 n (.exact c)) n cs
def Vals (h : H) (s x y v : AV) (h' : H) : Prop := ∀ c m t k r, blkOf v = some c → h'.t.get c = some (.cells m t k r) → ∀ j u, t.get j = some u → (u = x ∨ u = y) ∨ (u = .str [] ∨ u = .nilslice) ∨ ∃ c0 j0, blkOf s = some c0 ∧ cellAt h c0 j0 = some u
theorem zmem {u : AV} : ∀ n, u ∈ repl [AV.str [], .nilslice] n → u = .str [] ∨ u = .nilslice
 | 0, h => by simp [repl] at h
 | n + 1, h => by
  unfold repl at h
  rcases List.mem_append.1 h with q | q
  ·simpa using q
  ·exact zmem n q
theorem mem2 {x y u : AV} {j : Nat} (h : [x, y][j]? = some u) : u = x ∨ u = y := by
 have := List.mem_of_getElem? h
 simpa using this
def PostIns (h : H) (s x y : AV) (n : Nat) (cs : List AV) (v : AV) (h' : H) : Prop :=
 h.nx ≤ h'.nx ∧ RowV h' v n cs ∧ (∀ b, b < h.nx → blkOf s ≠ some b → h'.t.get b = h.t.get b) ∧ (∀ b, blkOf v = some b → blkOf s = some b ∨ h.nx ≤ b) ∧ Vals h s x y v h'
theorem bi_appZ (h : H) (s : AV) (q : Nat) (hq : q ≤ 4194304) : builtinA P .append [47, 3] [s, .int .i64 (.ofNat q)] h = appendN 75 2 s q (repl [.str [], .nilslice] q) h := by
 have hi : infoOk P 75 2 = true:= by kernel_rfl
 have hz : zeroA P 75 = some (.agg [.str [], .nilslice]):= by kernel_rfl
 have u3' : P.underlying 3 = some (.int .i64):= by kernel_rfl
 unfold infoOk at hi
 split at hi
 ·rename_i info hinfo
  rw [Bool.and_eq_true] at hi
  have e := Nat.eq_of_beq_eq_true hi.2
  have hs : (appendOk P 75 info && small q) = true:= by rw [Bool.and_eq_true]; exact ⟨hi.1, ble_t hq⟩
  simp only [builtinA, u47, u3', appendZ, hinfo, hz, hs, e]
  rfl
 ·cases hi
theorem row_zero {h : H} {b m size ty : Nat} {cs : List AV} (hr : RowB h b m size ty cs) (o : Nat) : h.row b o 0 = some [] := by
 obtain ⟨-, t, hg, -⟩ := hr
 unfold H.row; rw [hg]; simp only [loadRow_eq]; rfl
theorem ext96 : ExtIs P 83 (Extern.SlicesOverlaps.overlaps #[47, 47] #[4]) :=
 ⟨Tryz.f83, Tryz.func83, by kernel_rfl, by kernel_rfl, by kernel_rfl, by kernel_rfl⟩
theorem over96_ok : HookOk P (overHook 83) := overHook_ok (e := 75) (size := 2) u47 (fun w => by
 have hi : infoOk P 75 2 = true:= by kernel_rfl
 have hc : P.cellsOf 75 = 2:= by kernel_rfl
 unfold infoOk at hi
 split at hi
 ·rename_i info hinfo
  rw [run_sizeOf w hinfo, hc]
 ·cases hi) ext96
theorem callV96 (args : List AV) (h : H) : callV P (.func 83 [] []) args h = .ext 83 args h := by
 have e : enterOk P 83 = false:= by kernel_rfl
 simp only [callV, e, List.nil_append, List.append_nil]
theorem exW_over {h : H} {b1 o1 n1 b2 o2 n2 m1 m2 : Nat} {c1 c2 : Cap} {t1 t2 : T AV} {ty : Nat} {k2 : EK} {ro : Bool} {K : AV → H → Prop} (hne : b1 ≠ b2) (h1 : h.t.get b1 = some (.cells m1 t1 ⟨0, ty⟩ false)) (h2 : h.t.get b2 = some (.cells m2 t2 k2 ro)) (hm : m2 ≠ 0)
  (hk : K (.bool false) h) : exW P (callV P (.func 83 [] []) [.slice b1 o1 n1 c1, .slice b2 o2 n2 c2] h) K := by
 rw [callV96, exW_ext]
 refine ⟨overHook 83, .bool false, h, over96_ok, ?_, hk⟩
 unfold overHook
 simp only [overExt, Nat.beq_refl, beq_f hne, h1, h2, beq_f hm]
structure One (h : H) (vb : Nat) (x y : AV) : Prop where
 lt : vb < h.nx
 get : ∃ t ty, h.t.get vb = some (.cells 2 t ⟨0, ty⟩ false)
 c0 : cellAt h vb 0 = some x
 c1 : cellAt h vb 1 = some y
 ox : x.one = true
 oy : y.one = true
def insL (cs : List AV) (i : Nat) (x y : AV) : List AV := cs.take (i * 2) ++ (x :: y :: cs.drop (i * 2))
theorem insL_get {cs : List AV} {n i : Nat} (hl : cs.length = n * 2) (hi : i ≤ n) (x y : AV) (j : Nat) : (insL cs i x y)[j]? = if j < i * 2 then cs[j]? else if j = i * 2 then some x else if j = i * 2 + 1 then some y else cs[j - 2]? := by
 unfold insL
 have ht : (cs.take (i * 2)).length = i * 2:= by rw [List.length_take]; omega
 by_cases q : j < i * 2
 ·rw [if_pos q, List.getElem?_append_left (by omega), List.getElem?_take, if_pos q]
 ·rw [if_neg q, List.getElem?_append_right (by omega), ht]
  by_cases q1 : j = i * 2
  ·rw [if_pos q1, q1, Nat.sub_self]; rfl
  ·rw [if_neg q1]
   by_cases q2 : j = i * 2 + 1
   ·rw [if_pos q2, q2, show i * 2 + 1 - i * 2 = 1 by omega]; rfl
   ·rw [if_neg q2, show j - i * 2 = (j - i * 2 - 2) + 2 by omega]
    simp only [List.getElem?_cons_succ]
    rw [List.getElem?_drop]; congr 1; omega
theorem insL_len {cs : List AV} {n i : Nat} (hl : cs.length = n * 2) (hi : i ≤ n) (x y : AV) : (insL cs i x y).length = (n + 1) * 2 := by
 unfold insL; simp; omega
set_option maxHeartbeats 2000000 in
theorem named {α : Type} (a : α) {p : Prop} (k : ∀ x, x = a → p) : p := k a rfl
theorem insX (h : H) (b n c i vb ty : Nat) (cs : List AV) (x y : AV) (hr : RowB h b (c * 2) 2 ty cs) (hl : cs.length = n * 2) (hall : allOne cs = true) (h0 : 0 < n) (hc : n ≤ c) (hi : i ≤ n) (hv : One h vb x y) (hne : vb ≠ b) (hz : n ≤ 100000) :
  PushC P (.enter 70 [.slice b 0 n (.exact c), .int .i64 (.ofNat i), .slice vb 0 1 (.exact 1)] h) (PostIns h (.slice b 0 n (.exact c)) x y (n + 1) (insL cs i x y)) := by
 obtain ⟨hblt, t, hg, ht⟩ := id hr
 obtain ⟨hvlt, ⟨tv, tyv, hvg⟩, v0, v1, vx, vy⟩ := hv
 have s1 := sl_ex_l (P := P) (e := 75) (size := 2) u47 (by kernel_rfl) (by kernel_rfl) b 0 n c i .i64 hi
 have e1 : decide (1 = 0) = false := rfl
 have old : ∀ j u, t.get j = some u → ∃ c0 j0, blkOf (.slice b 0 n (.exact c)) = some c0 ∧ cellAt h c0 j0 = some u := fun j u e => ⟨b, j, rfl, by unfold cellAt; rw [hg]; exact e⟩
 have oldc : ∀ j u, cs[j]? = some u → ∃ c0 j0, blkOf (.slice b 0 n (.exact c)) = some c0 ∧ cellAt h c0 j0 = some u := fun j u e => old j u (by rw [ht j (List.getElem?_eq_some_iff.1 e).1]; exact e)
 have hxy : allOne [x, y] = true:= by simp [allOne, vx, vy]
 refine pushC_of_codeW (fn := Tryz.f70) (c := bodyC Tryz.f70) Tryz.func70 rfl ?_
 show codeW P 70 95 none _ _ _ _ _
 refine codeW_root ?_
 by_cases hin : i = n
 ·subst hin
  have d1 : decide (i = i) = true := decide_eq_true rfl
  have hins : insL cs i x y = cs ++ [x, y] := by
   unfold insL; rw [← hl, List.take_length, List.drop_length]
  refine rT ?_ (V @ex_sl_l<|V s1<|V e1<|V d1<|V v0<|v1)
  by_cases hcap : i + 1 ≤ c
  ·refine exW_xplace (m := c * 2) hcap rfl hg (by omega) hxy (fun t' ht' => ?_)
   refine rT0 ?_
   refine ⟨Nat.le_refl _, .exa b (i + 1) c ty _ (by omega) (insL_len hl (Nat.le_refl _) x y) hcap ⟨hblt, t', ?_, fun j hj => ?_⟩, fun b' hb' hne' => ?_, fun b' q => .inl q, fun c' m' t2' k' r' q1 q2 j u q3 => ?_⟩
   ·show (T.set h.t b _).get b = _
    rw [T.get_set, if_pos rfl]
   ·rw [insL_len hl (Nat.le_refl _)] at hj
    rw [ht' j, insL_get hl (Nat.le_refl _)]
    simp only [List.length_cons, List.length_nil, Nat.zero_add]
    by_cases q : j < i * 2
    ·rw [if_neg (by omega), if_pos q, ht j (by omega)]
    ·rw [if_pos (by omega), if_neg q]
     by_cases q2 : j = i * 2
     ·rw [if_pos q2, q2, Nat.sub_self]; rfl
     ·rw [if_neg q2, if_pos (by omega), show j - i * 2 = 1 by omega]; rfl
   ·show (T.set h.t b _).get b' = _
    rw [T.get_set, if_neg (by rintro rfl; exact hne' rfl)]
   ·cases q1
    have q2 : (T.set h.t b _).get b = _ := q2
    rw [T.get_set, if_pos rfl] at q2
    cases q2
    rw [ht' j] at q3
    split at q3
    ·exact .inl (mem2 q3)
    ·exact .inr (.inr (old j u q3))
  ·refine exW_xgrow (by omega) rfl (by omega) (by rw [hr.row (by omega) (by omega), List.drop_zero, ← hl, List.take_length]) ?_
   refine rT0 ?_
   refine ⟨grown_only.1, .opn h.nx (i + 1) _ 76 _ (by omega) (insL_len hl (Nat.le_refl _) x y) (Nat.le_refl _) ⟨by rw [grownL_nx]; omega, T.ofRow (cs ++ [x, y]), ?_, fun j hj => ?_⟩, fun b' hb' hne' => ?_, fun b' q => by cases q; exact .inr (Nat.le_refl _), fun c' m' t2' k' r' q1 q2 j u q3 => ?_⟩
   ·rw [grown_none, if_pos rfl]
    congr 2
    simp; omega
   ·rw [T.get_ofRow, hins]
   ·rw [grown_none, if_neg (by omega)]
   ·cases q1
    rw [grown_none, if_pos rfl] at q2
    cases q2
    rw [T.get_ofRow] at q3
    rcases List.mem_append.1 (List.mem_of_getElem? q3) with q4 | q4
    ·obtain ⟨j', q5⟩ := List.getElem?_of_mem q4
     exact .inr (.inr (oldc j' u q5))
    ·exact .inl (by simpa using q4)
 ·have hlt : i < n:= by omega
  have d1 : decide (i = n) = false := decide_eq_false hin
  have w1 : wrapF .i64 (Int.ofNat n + Int.ofNat 1) = Int.ofNat (n + 1) := i64_add (by omega)
  have w2 : wrapF .i64 (Int.ofNat i + Int.ofNat 1) = Int.ofNat (i + 1) := i64_add (by omega)
  have cap1 := fun (h : H) ts xs => bi_cap_ex (P := P) (h := h) u47 b 0 n c ts xs
  have s1' : ∀ (h : H), True := fun _ => trivial
  by_cases hcap : n + 1 ≤ c
  ·-- in place
   have d2 : decide (c < n + 1) = false := decide_eq_false (by omega)
   have s2 := sl_ex_h (P := P) (e := 75) u47 (by kernel_rfl) b 0 n c (n + 1) .i64 hcap
   have s3 := sl_ex_l (P := P) (e := 75) (size := 2) u47 (by kernel_rfl) (by kernel_rfl) b 0 (n + 1) c (i + 1) .i64 (by omega)
   have s4 := sl_ex_l (P := P) (e := 75) (size := 2) u47 (by kernel_rfl) (by kernel_rfl) b 0 (n + 1) c i .i64 (by omega)
   rw [if_neg (by omega)] at s3 s4
   refine rT ?_ (V @ex_sl_l<|V @ex_sl_h<|V s1<|V s2<|V s3<|V s4<|V e1<|V d1<|V d2<|V w1<|V w2<|cap1)
   refine exW_over (m1 := 2) (m2 := c * 2) hne hvg hg (by omega) ?_
   have hrow := hr.row (o := i * 2) (n := (n - i) * 2) (by omega) (by omega)
   rw [show (cs.drop (i * 2)).take ((n - i) * 2) = cs.drop (i * 2) from List.take_of_length_le (by simp; omega)] at hrow
   have hall2 : allOne (cs.drop (i * 2)) = true := allOne_iff.2 fun v hv => allOne_iff.1 hall v (List.mem_of_mem_drop hv)
   have hdl : (cs.drop (i * 2)).length = (n - i) * 2:= by rw [List.length_drop]; omega
   refine rT ?_ (V @ex_sl_l<|V @ex_sl_h<|V s3<|V s4<|V w2<|@Bool.not_false)
   refine exW_xcopy (e := 75) (size := 2) (n := n - i) u47 (by kernel_rfl) (by kernel_rfl) (by show min _ _ = _; omega) hrow hg hall2 (by rw [hdl]; omega) (fun t1 ht1 => ?_)
   obtain ⟨h1, h1e⟩ : ∃ h1 : H, h1 = { h with t := h.t.set b (some (.cells (c * 2) t1 ⟨2, ty⟩ false)) } := ⟨_, rfl⟩
   have g1 : ∀ b', h1.t.get b' = if b' = b then some (.cells (c * 2) t1 ⟨2, ty⟩ false) else h.t.get b' := fun b' => by rw [h1e]; exact T.get_set _ _ _ _
   have gb1 : h1.t.get b = some (.cells (c * 2) t1 ⟨2, ty⟩ false):= by rw [g1, if_pos rfl]
   have gv1 : h1.t.get vb = h.t.get vb:= by rw [g1, if_neg hne]
   have rv : h1.row vb 0 2 = some [x, y] := by
    rw [row_2, cellAt_of_get gv1, cellAt_of_get gv1]
    simp only [Nat.zero_add, v0, v1]; rfl
   have x1 : h1.nx = h.nx:= by rw [h1e]
   rw [← h1e]
   refine rT ?_ (V @ex_sl_l<|V @ex_sl_h<|V s3<|V s4<|V w2<|@Bool.not_false)
   refine exW_xcopy (e := 75) (size := 2) (n := 1) (l := [x, y]) u47 (by kernel_rfl) (by kernel_rfl) (by show min _ _ = _; omega) rv gb1 hxy (by simp; omega) (fun t2 ht2 => ?_)
   refine rT ?_ (V @ex_sl_l<|V @ex_sl_h<|V s3<|V s4<|w2)
   refine ⟨Nat.le_of_eq x1.symm, .exa b (n + 1) c ty _ (by omega) (insL_len hl hi x y) hcap ⟨by show b < h1.nx; omega, t2, ?_, fun j hj => ?_⟩, fun b' hb' hne' => ?_, fun b' q => .inl q, fun c' m' t2' k' r' q1 q2 j u q3 => ?_⟩
   ·show (T.set h1.t b _).get b = _
    rw [T.get_set, if_pos rfl]
   ·rw [insL_len hl hi] at hj
    rw [ht2 j, insL_get hl hi, ht1 j]
    simp only [List.length_cons, List.length_nil, Nat.zero_add, hdl]
    by_cases q : j < i * 2
    ·rw [if_neg (by omega), if_neg (by omega), if_pos q, ht j (by omega)]
    ·rw [if_neg q]
     by_cases q2 : j = i * 2
     ·rw [if_pos q2, if_pos (by omega), q2, Nat.sub_self]; rfl
     ·rw [if_neg q2]
      by_cases q3 : j = i * 2 + 1
      ·rw [if_pos q3, if_pos (by omega), q3, show i * 2 + 1 - i * 2 = 1 by omega]; rfl
      ·rw [if_neg q3, if_neg (by omega), if_pos (by omega), List.getElem?_drop, show i * 2 + (j - (i + 1) * 2) = j - 2 by omega]
   ·show (T.set h1.t b _).get b' = _
    have hbb : b' ≠ b:= by rintro rfl; exact hne' rfl
    rw [T.get_set, if_neg hbb, g1, if_neg hbb]
   ·cases q1
    have q2 : (T.set h1.t b _).get b = _ := q2
    rw [T.get_set, if_pos rfl] at q2
    cases q2
    rw [ht2 j] at q3
    split at q3
    ·exact .inl (mem2 q3)
    ·rw [ht1 j] at q3
     split at q3
     ·rw [List.getElem?_drop] at q3
      exact .inr (.inr (oldc _ u q3))
     ·exact .inr (.inr (old j u q3))
  ·-- a new row
   have d2 : decide (c < n + 1) = true := decide_eq_true (by omega)
   have s2 := sl_ex_h (P := P) (e := 75) u47 (by kernel_rfl) b 0 n c i .i64 (by omega)
   have w3 : wrapF .i64 (Int.ofNat (n + 1) - Int.ofNat i) = Int.ofNat (n + 1 - i) := i64_sub (by omega) (by omega)
   have az := fun (h : H) s => bi_appZ h s (n + 1 - i) (by omega)
   refine rT ?_ (V @ex_sl_l<|V @ex_sl_h<|V s1<|V s2<|V e1<|V d1<|V d2<|V w1<|V w2<|V w3<|V cap1<|az)
   have hrow0 : h.row b 0 (i * 2) = some (cs.take (i * 2)) := by
    by_cases q : i = 0
    ·subst q; rw [Nat.zero_mul, row_zero hr]; rfl
    ·rw [hr.row (by omega) (by omega), List.drop_zero]
   have hzl : (repl [AV.str [], .nilslice] (n + 1 - i)).length = (n + 1 - i) * 2:= by rw [repl_len]; rfl
   refine exW_xgrow (by omega) hzl (by omega) hrow0 ?_
   rw [show i + (n + 1 - i) = n + 1 by omega]
   obtain ⟨zs, hzs⟩ : ∃ zs, zs = repl [AV.str [], .nilslice] (n + 1 - i) := ⟨_, rfl⟩
   rw [← hzs] at hzl ⊢
   obtain ⟨h1, h1e⟩ : ∃ h1, h1 = h.grown none ⟨2, 76⟩ (cs.take (i * 2) ++ zs) := ⟨_, rfl⟩
   have htl : (cs.take (i * 2)).length = i * 2:= by rw [List.length_take]; omega
   have hll : (cs.take (i * 2) ++ zs).length = (n + 1) * 2:= by rw [List.length_append, htl, hzl]; omega
   have g1 : ∀ b', h1.t.get b' = if b' = h.nx then some (.cells ((n + 1) * 2) (T.ofRow (cs.take (i * 2) ++ zs)) ⟨2, 76⟩ false) else h.t.get b' := fun b' => by rw [h1e, grown_none, hll]
   have x1 : h1.nx = h.nx + 1:= by rw [h1e, grownL_nx]
   have gn1 : h1.t.get h.nx = some (.cells ((n + 1) * 2) (T.ofRow (cs.take (i * 2) ++ zs)) ⟨2, 76⟩ false):= by rw [g1, if_pos rfl]
   have gv1 : h1.t.get vb = h.t.get vb:= by rw [g1, if_neg (by omega)]
   have rv : h1.row vb 0 2 = some [x, y] := by
    rw [row_2, cellAt_of_get gv1, cellAt_of_get gv1]
    simp only [Nat.zero_add, v0, v1]; rfl
   have s5 := sl_op_l (P := P) (e := 75) (size := 2) u47 (by kernel_rfl) (by kernel_rfl) h.nx 0 (n + 1) 0 i .i64 (by omega)
   have s6 := sl_op_l (P := P) (e := 75) (size := 2) u47 (by kernel_rfl) (by kernel_rfl) h.nx 0 (n + 1) 0 (i + 1) .i64 (by omega)
   rw [← h1e]
   refine rT ?_ (V @ex_sl_l<|V @ex_sl_h<|V s5<|w2)
   refine exW_xcopy (e := 75) (size := 2) (n := 1) (l := [x, y]) u47 (by kernel_rfl) (by kernel_rfl) (by show min _ _ = _; omega) rv gn1 hxy (by simp; omega) (fun t1 ht1 => ?_)
   with_reducible refine named ({ h1 with t := h1.t.set h.nx (some (.cells ((n + 1) * 2) t1 ⟨2, 76⟩ false)) } : H) (fun h2 h2e => ?_)
   have g2 : ∀ b', h2.t.get b' = if b' = h.nx then some (.cells ((n + 1) * 2) t1 ⟨2, 76⟩ false) else h.t.get b' := fun b' => by
    rw [h2e]
    show (T.set h1.t h.nx _).get b' = _
    rw [T.get_set]
    by_cases q : b' = h.nx
    ·rw [if_pos q, if_pos q]
    ·rw [if_neg q, if_neg q, g1, if_neg q]
   have x2 : h2.nx = h.nx + 1:= by rw [h2e]; exact x1
   have hr2 : RowB h2 b (c * 2) 2 ty cs := ⟨by omega, t, by rw [g2, if_neg (by omega)]; exact hg, ht⟩
   have hrow := hr2.row (o := i * 2) (n := (n - i) * 2) (by omega) (by omega)
   rw [show (cs.drop (i * 2)).take ((n - i) * 2) = cs.drop (i * 2) from List.take_of_length_le (by simp; omega)] at hrow
   have hall2 : allOne (cs.drop (i * 2)) = true := allOne_iff.2 fun v hv => allOne_iff.1 hall v (List.mem_of_mem_drop hv)
   have hdl : (cs.drop (i * 2)).length = (n - i) * 2:= by rw [List.length_drop]; omega
   have gn2 : h2.t.get h.nx = some (.cells ((n + 1) * 2) t1 ⟨2, 76⟩ false):= by rw [g2, if_pos rfl]
   rw [if_neg (by omega)] at s1
   rw [← h2e]
   repeat' (first | ((with_reducible refine st1 ?_); (conv => whnf); (with_reducible refine ⟨?_⟩)) | ((with_reducible refine st_dw ?_ rfl rfl ?_ ?_); exact rfl; kernel_rfl; (conv => arg 5; whnf); (conv => arg 3; whnf)) | ((with_reducible refine retW_intro rfl ?_); (conv => arg 2; whnf)) | ((with_reducible first | refine iB ?_ ?_ | refine gWt ?_ ?_ | refine gWf ?_ ?_ | refine gXt ?_ ?_ | refine gXf ?_ ?_) <;> intro hb <;> (try simp only [hb])) | ((with_reducible show drawI _ _ _ _ _ _ _ _ _); first | ((with_reducible refine kI_rd ?_ ?_); exact rfl) | ((with_reducible apply kI_rg); exact rfl; exact rfl) | ((with_reducible refine kI_cv ?_ ?_ ?_); exact rfl; kernel_rfl) | ((with_reducible apply kI_al); exact rfl; exact rfl) | ((with_reducible refine kI_ex ?_ ?_ ?_ ?_ ?_); exact rfl; kernel_rfl; exact rfl) | ((with_reducible apply kI_eg); exact rfl; kernel_rfl; exact rfl) | ((with_reducible refine kI_nl ?_ ?_))) | ((with_reducible show eOk _ _ _ _ _ _); first | (exact eok_nil) | (refine ke_rd ?_ ?_ ?_; exact rfl) | (apply ke_rg; exact rfl; exact rfl) | (refine ke_cv ?_ ?_ ?_ ?_; exact rfl; kernel_rfl) | (apply ke_fl; exact rfl) | (apply ke_al; exact rfl; exact rfl)) | ((with_reducible refine freshIs_new ?_); kernel_rfl) | (simp only [B, xB, F, reduceLT, reduceLeDiff, reduceEqDiff, reduceAdd, reduceMul, reduceSub, ↓reduceIte, eq_self, ex_sl_l, ex_sl_h, s1, s6, w2]))
   refine exW_xcopy (e := 75) (size := 2) (n := n - i) u47 (by kernel_rfl) (by kernel_rfl) (by show min _ _ = _; omega) hrow gn2 hall2 (by rw [hdl]; omega) (fun t2 ht2 => ?_)
   refine rT0 ?_
   refine ⟨by show h.nx ≤ h2.nx; omega, .opn h.nx (n + 1) ((n + 1) * 2) 76 _ (by omega) (insL_len hl hi x y) (Nat.le_refl _) ⟨by show h.nx < h2.nx; omega, t2, ?_, fun j hj => ?_⟩, fun b' hb' hne' => ?_, fun b' q => by cases q; exact .inr (Nat.le_refl _), fun c' m' t2' k' r' q1 q2 j u q3 => ?_⟩
   ·show (T.set h2.t h.nx _).get h.nx = _
    rw [T.get_set, if_pos rfl]
   ·rw [insL_len hl hi] at hj
    rw [ht2 j, insL_get hl hi, ht1 j, T.get_ofRow]
    simp only [List.length_cons, List.length_nil, Nat.zero_add, hdl]
    by_cases q : j < i * 2
    ·rw [if_neg (by omega), if_neg (by omega), if_pos q, List.getElem?_append_left (by omega), List.getElem?_take, if_pos q]
    ·rw [if_neg q]
     by_cases q2 : j = i * 2
     ·rw [if_pos q2, if_neg (by omega), if_pos (by omega), q2, Nat.sub_self]; rfl
     ·rw [if_neg q2]
      by_cases q3 : j = i * 2 + 1
      ·rw [if_pos q3, if_neg (by omega), if_pos (by omega), q3, show i * 2 + 1 - i * 2 = 1 by omega]; rfl
      ·rw [if_neg q3, if_pos (by omega), List.getElem?_drop, show i * 2 + (j - (i + 1) * 2) = j - 2 by omega]
   ·show (T.set h2.t h.nx _).get b' = _
    rw [T.get_set, if_neg (by omega), g2, if_neg (by omega)]
   ·cases q1
    have q2 : (T.set h2.t h.nx _).get h.nx = _ := q2
    rw [T.get_set, if_pos rfl] at q2
    cases q2
    rw [ht2 j] at q3
    split at q3
    ·rw [List.getElem?_drop] at q3
     exact .inr (.inr (oldc _ u q3))
    ·rw [ht1 j] at q3
     split at q3
     ·exact .inl (mem2 q3)
     ·rw [T.get_ofRow] at q3
      rcases List.mem_append.1 (List.mem_of_getElem? q3) with q4 | q4
      ·obtain ⟨j', q5⟩ := List.getElem?_of_mem (List.mem_of_mem_take q4)
       exact .inr (.inr (oldc j' u q5))
      ·exact .inr (.inl (zmem _ (hzs ▸ q4)))
end
end Go.Proofs.YtlkngpckibidlaaGreat.X

namespace Go.Proofs.YtlkngpckibidlaaGreat.X
open Go Go.AX
noncomputable section
set_option maxRecDepth 100000
theorem insNil (h : H) (vb : Nat) (x y : AV) (hv : One h vb x y) :
  PushC P (.enter 70 [.nilslice, .int .i64 (.ofNat 0), .slice vb 0 1 (.exact 1)] h) (PostIns h .nilslice x y 1 [x, y]) := by
 obtain ⟨hvlt, ⟨tv, tyv, hvg⟩, v0, v1, vx, vy⟩ := hv
 have e1 : decide (1 = 0) = false := rfl
 have e2 : decide (0 = 0) = true := rfl
 have s0 : sliceA P 47 .nilslice (some (.int .i64 (.ofNat 0))) none none = some .nilslice:= by kernel_rfl
 obtain ⟨v', h', e, hg, hx, hf, hbv⟩ := appendN_grows (elem := 75) (size := 2) (base := h.nx) (h := h) (new := [x, y]) (m := 1) (Grows.none) (Nat.le_refl _) (by omega) (by omega) rfl (by omega)
 refine pushC_of_codeW (fn := Tryz.f70) (c := bodyC Tryz.f70) Tryz.func70 rfl ?_
 show codeW P 70 95 none _ _ _ _ _
 refine codeW_root ?_
 refine rT ?_ (V @ex_sl_l<|V e1<|V e2<|V v0<|V v1<|V s0<|e)
 generalize hn : 0 + 1 = n at hg
 generalize hc : [] ++ [x, y] = cs at hg
 refine ⟨by omega, ?_, fun b hb hne => hf b hb hne, fun b q => .inr (by rw [hbv] at q; cases q; exact Nat.le_refl _), ?_⟩
 rotate_left
 ·intro c m t k r q1 q2 j u q3
  cases hg with
  | none => cases hn
  | cell b n cs t' ty hb1 hb2 hl hgt hj =>
   subst hc
   cases q1
   rw [hgt] at q2
   cases q2
   rw [hj] at q3
   exact .inl (mem2 q3)
 cases hg with
 | none => cases hn
 | cell b n cs t ty hb1 hb2 hl hgt hj =>
  subst hn; subst hc
  exact .opn b 1 2 ty _ (by omega) rfl (Nat.le_refl _) ⟨hb2, t, hgt, fun j _ => hj j⟩
theorem One.open {h : H} {vb b c m : Nat} {x y : AV} {t : T AV} {k : EK} (ho : One h vb x y) (hg : h.t.get b = some (.cells m t k false)) (hne : vb ≠ b) : One (openH h b c) vb x y := by
 obtain ⟨lt, ⟨t1, ty, hvg⟩, c0, c1, ox, oy⟩ := ho
 have e : (openH h b c).t.get vb = h.t.get vb:= by rw [openH_get hg, if_neg hne]
 refine ⟨by rw [openH_nx]; exact lt, ⟨t1, ty, by rw [e]; exact hvg⟩, ?_, ?_, ox, oy⟩
 ·rw [← c0]; unfold cellAt; rw [e]
 ·rw [← c1]; unfold cellAt; rw [e]
theorem insC (h : H) (s : AV) (n i vb : Nat) (cs : List AV) (x y : AV) (hr : RowV h s n cs) (hall : allOne cs = true) (hi : i ≤ n) (hv : One h vb x y) (hne : blkOf s ≠ some vb) (hz : n ≤ 100000) :
  PushC P (.enter 70 [s, .int .i64 (.ofNat i), .slice vb 0 1 (.exact 1)] h) (PostIns h s x y (n + 1) (insL cs i x y)) := by
 cases hr with
 | nil =>
  obtain rfl : i = 0:= by omega
  exact insNil h vb x y hv
 | exa b n c ty cs h0 hl hc hr =>
  exact insX h b n c i vb ty cs x y hr hl hall h0 hc hi hv (fun e => hne (by rw [e]; rfl)) hz
 | opn b n m ty cs h0 hl hm hr =>
  have hne' : vb ≠ b := fun e => hne (by rw [e]; rfl)
  obtain ⟨hlt, t, hg, ht⟩ := hr
  refine pushC_open hg (show 0 < 2 by omega) (fun c hc hmc => ?_)
  have hmc : m ≤ c * 2 := hmc
  have hg' : (openH h b c).t.get b = some (.cells (c * 2) t ⟨2, ty⟩ false):= by rw [openH_get hg, if_pos rfl]
  refine (insX (openH h b c) b n c i vb ty cs x y ⟨by rw [openH_nx]; exact hlt, t, hg', ht⟩ hl hall h0 hc hi (hv.open hg hne') hne' hz).mono P ?_
  rintro v h' ⟨p1, p2, p3, p4, p5⟩
  rw [openH_nx] at p1 p3 p4
  refine ⟨p1, p2, fun b' hb' hne2 => ?_, p4, fun c' m' t' k' r' q1 q2 j u q3 => ?_⟩
  rotate_left
  ·rcases p5 c' m' t' k' r' q1 q2 j u q3 with q | q | ⟨c0, j0, q, q4⟩
   ·exact .inl q
   ·exact .inr (.inl q)
   ·cases q
    refine .inr (.inr ⟨b, j0, rfl, ?_⟩)
    rw [← q4]; unfold cellAt; rw [hg', hg]
  have hne2 : b ≠ b' := fun e => hne2 (by rw [e]; rfl)
  rw [p3 b' hb' (fun e => by cases e; exact hne2 rfl), openH_get hg, if_neg (fun e => hne2 e.symm)]
end
end Go.Proofs.YtlkngpckibidlaaGreat.X

namespace Go.AX
noncomputable section
open Go.RowKit
def cellOpen (h : H) (b j bl n c : Nat) : H :=
 match (openH h bl c).t.get b with
 | some (.cells mb tb kb rb) => { openH h bl c with t := (openH h bl c).t.set b (some (.cells mb (tb.set j (some (.slice bl 0 n (.exact c)))) kb rb)) }
 | _ => openH h bl c
section
variable {P : Program} {N : NN} {φ : Phi} {h : H} {w : World}
theorem cellOpen_get {b j bl n c mb m : Nat} {tb t : T AV} {kb k : EK} {rb : Bool} (hb : h.t.get b = some (.cells mb tb kb rb)) (hbl : h.t.get bl = some (.cells m t k false)) (hne : b ≠ bl) (b' : Nat) :
  (cellOpen h b j bl n c).t.get b' = if b' = b then some (.cells mb (tb.set j (some (.slice bl 0 n (.exact c)))) kb rb) else if b' = bl then some (.cells (c * k.sz) t k false) else h.t.get b' := by
 have e : (openH h bl c).t.get b = some (.cells mb tb kb rb):= by rw [openH_get hbl, if_neg hne]; exact hb
 unfold cellOpen
 rw [e]
 show (T.set (openH h bl c).t b _).get b' = _
 rw [T.get_set, openH_get hbl]
theorem cellOpen_nx (h : H) (b j bl n c : Nat) : (cellOpen h b j bl n c).nx = h.nx := by
 unfold cellOpen; split
 ·exact openH_nx h bl c
 ·exact openH_nx h bl c
theorem HR.free (hr : HR N φ h w) {b : Nat} (hn : N.res b ≠ none) (o : Option AObj) : HR N φ { h with t := h.t.set b o } w := by
 refine ⟨fun x ox hx hx2 => ?_, fun x ox y oy L L' hx hy h1 h2 h3 => ?_, hr.lt, hr.res, hr.glob⟩
 ·simp only [T.get_set] at hx
  rw [if_neg (fun e => by subst e; exact hn hx2)] at hx
  exact hr.obj x ox hx hx2
 ·have nb : ∀ {x L}, φ x = some L → x ≠ b := fun h1 e => by subst e; rw [(hr.res _ hn).1] at h1; cases h1
  simp only [T.get_set] at hx hy
  rw [if_neg (nb h1)] at hx
  rw [if_neg (nb h2)] at hy
  exact hr.inj x ox y oy L L' hx hy h1 h2 h3
theorem cell_open (hr : HR N φ h w) {b j bl n mb m : Nat} {tb t : T AV} {kb k : EK} {rb : Bool} (hb : h.t.get b = some (.cells mb tb kb rb)) (hj : tb.get j = some (.slice bl 0 n (.opn 0)))
  (hbl : h.t.get bl = some (.cells m t k false)) (hk : 0 < k.sz) (hne : b ≠ bl) (hnm : n * k.sz ≤ m) : ∃ c, n ≤ c ∧ m ≤ c * k.sz ∧ HR N φ (cellOpen h b j bl n c) w := by
 have hcl : ∃ c, n ≤ c ∧ m ≤ c * k.sz ∧ HR N φ (openH h bl c) w ∧ ∀ L, φ bl = some L → L.K = c := by
  cases hq : N.res bl with
  | none =>
   obtain ⟨L, hL, -⟩ := hr.obj bl _ hbl hq
   obtain ⟨h1, h2⟩ := open_rel hr hbl hk hL
   refine ⟨L.K, ?_, h1, h2, fun L' e => by rw [hL] at e; cases e; rfl⟩
   exact Nat.le_of_mul_le_mul_right (Nat.le_trans hnm h1) hk
  | some q =>
   have hn : N.res bl ≠ none:= by rw [hq]; simp
   refine ⟨n + m, by omega, Nat.le_trans (Nat.le_add_left m n) (Nat.le_mul_of_pos_right _ hk), ?_, fun L e => by rw [(hr.res _ hn).1] at e; cases e⟩
   unfold openH; rw [hbl]
   exact hr.free hn _
 obtain ⟨c, h1, h2, h3, h4⟩ := hcl
 refine ⟨c, h1, h2, ?_⟩
 have e : (openH h bl c).t.get b = some (.cells mb tb kb rb):= by rw [openH_get hbl, if_neg hne]; exact hb
 unfold cellOpen
 rw [e]
 cases hq : N.res b with
 | some q => exact h3.free (by rw [hq]; simp) _
 | none =>
  obtain ⟨L, hL, ho⟩ := h3.obj b _ e hq
  refine h3.set e hL _ (fun _ _ => rfl) ?_
  obtain ⟨a, ty, frz, g1, g2, g3, g4, g5⟩ := ho
  refine ⟨a, ty, frz, g1, g2, fun i v hv => ?_, g4, g5⟩
  rw [T.get_set] at hv
  by_cases q : i = j
  ·rw [if_pos q] at hv
   cases hv
   subst q
   obtain ⟨a1, a2, cv, a3, a4⟩ := g3 i _ hj
   rw [VR_sliceOp] at a4
   obtain ⟨L2, b1, b2, b3⟩ := a4
   refine ⟨a1, rfl, cv, a3, ?_⟩
   rw [VR_sliceEx]
   refine ⟨L2, b1, ?_⟩
   rw [b2, h4 L2 b1]; rfl
  ·rw [if_neg q] at hv
   exact g3 i v hv
theorem PushC.cellOpen {r : R} {Q Q' : AV → H → Prop} (hc : PushC P r Q)
  (hq : ∀ v h, Q v h → Q' v h ∨ ∃ b j bl n mb m tb t kb k rb, h.t.get b = some (.cells mb tb kb rb) ∧ tb.get j = some (.slice bl 0 n (.opn 0)) ∧ h.t.get bl = some (.cells m t k false) ∧ 0 < k.sz ∧ b ≠ bl ∧ n * k.sz ≤ m ∧
   ∀ c, n ≤ c → m ≤ c * k.sz → Q' v (cellOpen h b j bl n c)) : PushC P r Q' := by
 intro c cs hf
 obtain ⟨s0, e0, hl⟩ := hc c cs hf
 refine ⟨s0, e0, ?_⟩
 intro N w0 bot φ fr fcs w hs
 obtain ⟨s1, ⟨v, h1, c1, hQ, hfin, rfl⟩, N1, φ1, fr1, cs1, w1, n1, l1, st1, sr1⟩ := hl N w0 bot φ fr fcs w hs
 rcases hq v h1 hQ with hQ' | ⟨b, j, bl, n, mb, m, tb, t, kb, k, rb, a1, a2, a3, a4, a5, a6, a7⟩
 ·exact ⟨_, ⟨v, h1, c1, hQ', hfin, rfl⟩, N1, φ1, fr1, cs1, w1, n1, l1, st1, sr1⟩
 ·obtain ⟨cc, d1, d2, d3⟩ := cell_open sr1.h a1 a2 a3 a4 a5 a6
  exact ⟨⟨c1, cs, AX.cellOpen h1 b j bl n cc⟩, ⟨v, _, c1, a7 cc d1 d2, hfin, rfl⟩, N1, φ1, fr1, cs1, w1, n1, l1, st1, ⟨sr1.fr, sr1.cs, d3, sr1.below, sr1.size⟩⟩
end
end
end Go.AX


/-
  model: the keys of a view, sorted; what lies in a range: walked.
-/
import Derived.Test.YtnedigoajoflaaaAxI
import Derived.Test.YtnedigoajoflaaaG0
set_option linter.unusedSimpArgs false
set_option linter.unusedVariables false
set_option linter.unusedSectionVars false
open Nat (reduceLT reduceLeDiff reduceEqDiff reduceAdd reduceMul reduceSub)
namespace Go.Proofs.Ytnedigoajoflaaa.M
open Go Go.AX
noncomputable section
set_option maxRecDepth 100000
def strs (l : List (List Nat)) : List AV := l.map .str
theorem notInN_iff {x : Nat} : ∀ {l : List Nat}, notIn l x = true ↔ x ∉ l := by
 intro l
 rw [notIn_eq]
 simp
theorem keysOf_ok {clock : Nat} : ∀ {es : List (AV × AV × Nat)} {X : View}, es.map entP = (mR X).map (encP encS) → (X.map (·.1)).Nodup → (es.map (·.2.2)).Nodup → (∀ e, e ∈ es → e.2.2 < clock) → (∀ p, p ∈ X → p.1.length ≤ 1000000) → keysOf clock es = some (X.map (·.1), es.map (·.2.2))
 | [], [], _, _, _, _, _ => rfl
 | [], p :: X, h, _, _, _, _ => by simp [mR] at h
 | e :: es, [], h, _, _, _, _ => by simp [mR] at h
 | e :: es, p :: X, h, nd, ns, lt, hz => by
  unfold mR at h
  rw [List.map_cons, List.map_cons, List.map_cons, List.cons.injEq] at h
  have e1 : e.1 = .str p.1 := congrArg Prod.fst h.1
  rw [List.map_cons, List.nodup_cons] at nd ns
  have ih := keysOf_ok (clock := clock) (es := es) (X := X) h.2 nd.2 ns.2 (fun x hx => lt x (by simp [hx])) (fun q hq => hz q (by simp [hq]))
  obtain ⟨a, b, c⟩ := e
  simp only at e1
  subst e1
  unfold keysOf
  have h1 : notInS p.1 (X.map (·.1)) = true := notInS_iff.2 nd.1
  have h2 : notIn (es.map (·.2.2)) c = true := notInN_iff.2 ns.1
  have h3 : Nat.blt c clock = true:= by rw [Nat.blt_eq]; exact lt _ (List.mem_cons_self ..)
  have h4 : small p.1.length = true := Nat.ble_eq_true_of_le (by have := hz p (by simp); omega)
  simp only [ih, h1, h2, h3, h4, Bool.and_self, List.map_cons]
theorem sortedC {h0 : H} {r : Nat} {X : View} (m : MapK encS h0 r (mR X)) (nd : (X.map (·.1)).Nodup) (hz : X.length ≤ 1000000) (hk : ∀ p, p ∈ X → p.1.length ≤ 1000000) {Q : AV → H → Prop}
  (hq : ∀ v h', Grows 1 (h0.nx + 1) h' v X.length (strs (sortS (X.map (·.1)))) → Og h0 h' [] → Q v h') : CallC P (.enter 54 [.func 77 [] [.ptr h0.nx 0]] (h0.newCells 85 [.map r])) Q := by
 obtain ⟨es, clock, g1, g2, g3, g4⟩ := m.has
 have ltr := m.lt
 have hl : es.length = X.length:= by have := congrArg List.length g2; simpa [mR] using this
 have hko := keysOf_ok g2 nd g3 g4 hk
 have hgb : (h0.newCells 85 [.map r]).t.get h0.nx = some (.cells (lenL [AV.map r]) (T.ofRow [AV.map r]) ⟨0, 86⟩ false) := by
  unfold H.newCells H.alloc
  rw [T.get_set, if_pos rfl]
 have hgr : (h0.newCells 85 [.map r]).t.get r = some (.map es clock) := by
  unfold H.newCells H.alloc
  rw [T.get_set, if_neg (by omega)]; exact g1
 have hsm : small es.length = true := Nat.ble_eq_true_of_le (by omega)
 have hT : (T.ofRow [AV.map r]).get 0 = some (.map r):= by rw [T.get_ofRow]; rfl
 have hin : sortedIn (h0.newCells 85 [.map r]) h0.nx = sortedAt (h0.newCells 85 [.map r]) es clock := by
  unfold sortedIn
  simp only [hgb, hT, hgr]
 have o1 : Og h0 (h0.newCells 85 [.map r]) [] := (Og.refl _ _).new _ _
 cases X with
 | nil =>
  have hat : sortedAt (h0.newCells 85 [.map r]) es clock = some (.nilslice, h0.newCells 85 [.map r]) := by
   unfold sortedAt
   simp only [hsm, hko, List.map_nil]
  refine CallC.of_hook P sortedK_ok (v := .nilslice) (h' := h0.newCells 85 [.map r]) ?_ (hq _ _ .none o1)
  show (match sortedIn (h0.newCells 85 [.map r]) h0.nx with | some x => some x | none => _) = _
  rw [hin, hat]
 | cons p X =>
  obtain ⟨h1, h1e⟩ : ∃ h1, h1 = h0.newCells 85 [.map r] := ⟨_, rfl⟩
  have x1 : h1.nx = h0.nx + 1:= by rw [h1e]; rfl
  have hat : sortedAt h1 es clock = some (.slice h1.nx 0 (X.length + 1) (.opn 0), h1.grown none ⟨1, 0⟩ ((sortS ((p :: X).map (·.1))).map .str)) := by
   unfold sortedAt
   simp only [hsm, hko, List.map_cons, List.length_cons, List.length_map]
  rw [← h1e] at hin o1 ⊢
  refine CallC.of_hook P sortedK_ok (v := .slice h1.nx 0 (X.length + 1) (.opn 0)) (h' := h1.grown none ⟨1, 0⟩ ((sortS ((p :: X).map (·.1))).map .str)) ?_ (hq _ _ ?_ (o1.t ⟨grown_only, rfl⟩))
  ·show (match sortedIn h1 h0.nx with | some x => some x | none => _) = _
   rw [hin, hat]
  ·have hln : ((sortS ((p :: X).map (·.1))).map AV.str).length = (X.length + 1) * 1 := by
    rw [List.length_map, (sortS_perm _).length_eq, List.length_map, List.length_cons, Nat.mul_one]
   refine .cell h1.nx (X.length + 1) _ (T.ofRow ((sortS ((p :: X).map (·.1))).map .str)) 0 (by omega) (by rw [grownL_nx]; omega) hln ?_ (T.get_ofRow _)
   rw [← hln]
   exact grownL_new _ _ _ _
theorem keysC (h0 : H) (r : Nat) : PushC P (.enter 55 [.map r] h0) (fun v h' => v = .func 77 [] [.ptr h0.nx 0] ∧ h' = h0.newCells 85 [.map r]) := by
 refine pushC_of_codeW (fn := Try.f55) (c := bodyC Try.f55) Try.func55 rfl ?_
 show codeW P 55 4 none _ _ _ _ _
 refine codeW_root ?_
 repeat' (first | ((with_reducible refine st1 ?_); (conv => whnf); (with_reducible refine ⟨?_⟩)) | ((with_reducible refine retW_intro rfl ?_); (conv => arg 2; whnf)) | ((with_reducible first | refine iB ?_ ?_ | refine gWt ?_ ?_ | refine gWf ?_ ?_) <;> intro hb <;> (try simp only [hb])) | (simp only [B, F, reduceLT, reduceLeDiff, reduceEqDiff, reduceAdd, reduceMul, reduceSub, ↓reduceIte, eq_self]))
def getR (k : List Nat) (W : View) : Option Rec := (W.find? fun p => decide (k = p.1)).map (·.2)
def getKV (k : List Nat) (W : View) : KV := ((getR k W).map (·.kv)).getD kv0
def inV (W : View) (key fin : List Nat) : List KV := ((sortS (W.map (·.1))).filter (fun k => liesB k key fin)).map fun k => getKV k W
def inK (W : View) (key fin : List Nat) (ks : List (List Nat)) : List KV := (ks.filter (fun k => liesB k key fin)).map fun k => getKV k W
theorem get_mR (k : List Nat) (W : View) : mapGet k (mR W) = (getR k W).map fun r => .agg r.cs := by
 unfold mapGet getR mR
 induction W with
 | nil => rfl
 | cons p W ih =>
  rw [List.map_cons, List.find?_cons, List.find?_cons]
  by_cases q : k = p.1
  ·simp [q]
  ·simp only [decide_eq_false q]; exact ih
theorem inK_s {W : View} {key fin : List Nat} {ks : List (List Nat)} {i : Nat} {k : List Nat} (h : ks[i]? = some k) : inK W key fin (ks.take (i + 1)) = inK W key fin (ks.take i) ++ (if liesB k key fin then [getKV k W] else []) := by
 unfold inK
 rw [List.take_add_one, h, List.filter_append, List.map_append]
 cases q : liesB k key fin <;> simp [q]
theorem inK_len (W : View) (key fin : List Nat) (ks : List (List Nat)) : (inK W key fin ks).length ≤ ks.length := by
 unfold inK; rw [List.length_map]; exact List.length_filter_le _ _
theorem strs_at {h : H} {b o n : Nat} {cap : Cap} {ks : List (List Nat)} (sl : SliceAt h (.slice b o n cap) n (strs ks)) {i : Nat} {k : List Nat} (hk : ks[i]? = some k) : cellAt h b (o + i * 1) = some (.str k) := by
 cases sl with
 | cell b o n cap cs' hb hc =>
  have hl : i < (strs ks).length:= by unfold strs; rw [List.length_map]; exact (List.getElem?_eq_some_iff.1 hk).1
  have := hc i hl
  rw [Nat.mul_one, this]
  unfold strs
  rw [List.getElem?_map, hk]; rfl
theorem u118a : P.underlying 118 = some (.slice 9):= by kernel_rfl
theorem z94a : zeroA P 94 = some (.agg [.int .u64 (.ofNat 0), .int .u64 (.ofNat 0), .str [], .str [], .int .u64 (.ofNat 0), .int .u64 (.ofNat 0), .int .u64 (.ofNat 0), .bool false]):= by kernel_rfl
def rec0 : Rec := ⟨0, 0, kv0, false⟩
theorem look_mR {h : H} {r : Nat} {W : View} (m : MapK encS h r (mR W)) (k : List Nat) : lookupA P 85 (.map r) (.str k) false h = some (.agg ((getR k W).getD rec0).cs) ∧ lookupA P 85 (.map r) (.str k) true h = some (.tuple [.agg ((getR k W).getD rec0).cs, .bool (getR k W).isSome]) := by
 have h1 := lookup_k (P := P) u85a k9m z94a m k false
 have h2 := lookup_k (P := P) u85a k9m z94a m k true
 rw [get_mR] at h1 h2
 cases q : getR k W with
 | none => rw [q] at h1 h2; exact ⟨h1, h2⟩
 | some x => rw [q] at h1 h2; exact ⟨h1, h2⟩
theorem getKV_eq (k : List Nat) (W : View) : getKV k W = ((getR k W).getD rec0).kv := by
 unfold getKV; cases getR k W <;> rfl
structure InI (h0 : H) (base r : Nat) (W : View) (key fin : List Nat) (vs : AV) (ks : List (List Nat)) (m : Nat) (ds : List Nat) (tm : T AV) (h : H) (i : Nat) (w : AV) : Prop where
 ds : ds = []
 nn : m = ks.length - i
 ii : i ≤ ks.length
 t0 : tm.get 0 = some (.map r)
 t1 : tm.get 1 = some (.str key)
 t2 : tm.get 2 = some (.str fin)
 t7 : tm.get 7 = some w
 t12 : tm.get 12 = some vs
 t13 : tm.get 13 = some (.int .i64 (.ofNat ks.length))
 t14 : tm.get 14 = some (.int .i64 (.ofNat i))
 gr : Grows 5 base h w (inK W key fin (ks.take i)).length ((inK W key fin (ks.take i)).flatMap KV.cs)
 sl : SliceAt h vs ks.length (strs ks)
 nb : ∀ c, blkOf vs = some c → c < base
 oo : Og h0 h []
 bb : base ≤ h.nx
set_option maxHeartbeats 2000000 in
theorem inViewC (h0 : H) (r : Nat) (W : View) (key fin : List Nat) (m : MapK encS h0 r (mR W)) (nd : (W.map (·.1)).Nodup) (hz : W.length ≤ 1000000) (hk : ∀ p, p ∈ W → p.1.length ≤ 1000000) :
  PushC P (.enter 30 [.map r, .str key, .str fin] h0) fun v h' => Og h0 h' [] ∧ Grows 5 h0.nx h' v (inV W key fin).length ((inV W key fin).flatMap KV.cs) := by
 have ltr := m.lt
 refine pushC_of_codeW (fn := Try.f30) (c := bodyC Try.f30) Try.func30 rfl ?_
 show codeW P 30 31 none _ _ _ _ _
 refine codeW_root ?_
 refine rN0 ?_
 refine ((keysC h0 r).call P).mono P ?_
 rintro _ _ ⟨rfl, rfl⟩
 refine rN0 ?_
 refine sortedC m nd hz hk (fun v h1 g1 o1 => ?_)
 obtain ⟨ks, hks⟩ : ∃ ks, ks = sortS (W.map (·.1)) := ⟨_, rfl⟩
 have hkl : ks.length = W.length:= by rw [hks, (sortS_perm _).length_eq, List.length_map]
 rw [← hks, ← hkl] at g1
 have gs := g1.slice
 have hlen := gs.len (P := P) u118a
 have hin : inV W key fin = inK W key fin ks:= by rw [hks]; rfl
 have hone := g1.one
 rw [hin]
 refine rN ?_ (V hlen<|hone)
 have x1 := o1.1.1
 refine st_loop (fun m ds tm h => ∃ i w, InI h0 h1.nx r W key fin v ks m ds tm h i w) ks.length rfl ⟨0, .nilslice, rfl, rfl, Nat.zero_le _, by exact sT, by exact sT, by exact sT, by exact sT, by exact sT, by exact sT, by exact sT, Grows.none, gs, (fun c hc => (g1.base hc).2), o1, Nat.le_refl _⟩ (fun m' ds tm h hI => ?_)
 obtain ⟨i, w, rfl, rfl, ii, t0, t1, t2, t7, t12, t13, t14, gr, sl, nb, oo, bb⟩ := hI
 have gro := gr.one
 by_cases hi : i < ks.length
 ·have di : decide (i < ks.length) = true := decide_eq_true hi
  have lt1 : (i < ks.length) = True:= by simp [hi]
  obtain ⟨k, hx⟩ : ∃ k, ks[i]? = some k := ⟨_, List.getElem?_eq_getElem hi⟩
  have slh := sl
  obtain ⟨bv, ov, cv, rfl, hbv, -⟩ := sl.place (by omega)
  have q0 := strs_at sl hx
  have w1 : wrapF .i64 (Int.ofNat i + Int.ofNat 1) = Int.ofNat (i + 1) := i64_add (by omega)
  have hs := inK_s (W := W) (key := key) (fin := fin) hx
  refine rN ?_ (V t0<|V t1<|V t2<|V t7<|V t12<|V t13<|V t14<|V di<|V lt1<|q0)
  refine ((liesC h k key fin).call P).mono P ?_
  rintro _ h2 ⟨rfl, o2⟩
  have x2 := o2.1.1
  have gr2 : Grows 5 h1.nx h2 w _ _ := gr.of_get o2.1.1 (fun d e => o2.1.2 d (gr.base e).2 (by simp))
  have sl2 := SliceAt.only o2.1 slh (fun _ _ => by simp)
  cases q : liesB k key fin with
  | false =>
   rw [q] at hs
   simp only [Bool.false_eq_true, ↓reduceIte, List.append_nil] at hs
   refine rN ?_ (V q<|V t14<|w1)
   exact ⟨ks.length - (i + 1), by omega, i + 1, w, rfl, rfl, by omega, by exact sT, by exact sT, by exact sT, by exact sT, by exact sT, by exact sT, by exact sT, by rw [hs]; exact gr2, sl2, nb, oo.t o2, by omega⟩
  | true =>
   rw [q] at hs
   simp only [↓reduceIte] at hs
   have m2 := m.keep (oo.t o2).1 (by simp)
   have lk := (look_mR m2 k).1
   obtain ⟨x, hxe⟩ : ∃ x, x = (getR k W).getD rec0 := ⟨_, rfl⟩
   have hkv : getKV k W = x.kv:= by rw [getKV_eq, hxe]
   rw [← hxe] at lk
   rw [hkv] at hs
   unfold Rec.cs at lk
   repeat' (first | ((with_reducible refine st1 ?_); (conv => whnf); (with_reducible refine ⟨?_⟩)) | ((with_reducible refine retW_intro rfl ?_); (conv => arg 2; whnf)) | ((with_reducible first | refine iB ?_ ?_ | refine gWt ?_ ?_ | refine gWf ?_ ?_) <;> intro hb <;> (try simp only [hb])) | (simp only [B, F, reduceLT, reduceLeDiff, reduceEqDiff, reduceAdd, reduceMul, reduceSub, ↓reduceIte, eq_self, q, t0, t7, t14, w1, @ex_lookup, lk, gro]))
   obtain ⟨h3, h3e⟩ : ∃ h3, h3 = h2.newCells 55 [.str x.kv.key, .str x.kv.val, .int .u64 (.ofNat x.kv.cre), .int .u64 (.ofNat x.kv.mod), .int .u64 (.ofNat x.kv.ver)] := ⟨_, rfl⟩
   have o3 : Og h2 h3 []:= by rw [h3e]; exact (Og.refl _ _).new _ _
   have x3 : h3.nx = h2.nx + 1:= by rw [h3e]; rfl
   have gr3 : Grows 5 h1.nx h3 w _ _ := gr2.of_get o3.1.1 (fun d e => o3.1.2 d (gr2.base e).2 (by simp))
   have hln := inK_len W key fin (ks.take i)
   have htl : (ks.take i).length = i:= by rw [List.length_take]; omega
   rw [← h3e]
   refine exW_growsG (m := 1) (new := x.kv.cs) gr3 (by omega) (by omega) (by omega) rfl (by omega) (fun v7 h7 g7 x7 old7 bl7 gg7 => ?_)
   have g7o := g7.one
   refine rN ?_ (V t14<|V g7o<|w1)
   have o7 : Og h3 h7 [] → Og h0 h7 [] := fun o => ((oo.t o2).t o3).t o
   refine ⟨ks.length - (i + 1), by omega, i + 1, v7, rfl, rfl, by omega, by exact sT, by exact sT, by exact sT, by exact sT, by exact sT, by exact sT, by exact sT, by rw [hs, List.length_append, List.flatMap_append]; exact g7, ?_, nb, ⟨⟨by have := oo.1.1; omega, fun d hd _ => ?_⟩, by rw [gg7, o3.2, o2.2, oo.2]⟩, by omega⟩
   ·refine SliceAt.only (S := match blkOf w with | some c => [c] | none => []) ⟨by omega, fun d hd hn => ?_⟩ slh (fun b hb => ?_)
    ·rw [old7 d (by omega) (fun e => hn (by rw [e]; simp)), o3.1.2 d (by omega) (by simp), o2.1.2 d (by omega) (by simp)]
    ·have := nb b hb
     cases hbw : blkOf w with
     | none => simp
     | some c => have := (gr.base hbw).1; simp; omega
   ·have := oo.1.1
    rw [old7 d (by omega) (fun e => by have := (gr.base e).1; omega), o3.1.2 d (by omega) (by simp), o2.1.2 d (by omega) (by simp), oo.1.2 d hd (by simp)]
 ·have di : decide (i < ks.length) = false := decide_eq_false hi
  obtain rfl : i = ks.length:= by omega
  rw [List.take_length] at gr
  refine rN ?_ (V t0<|V t1<|V t2<|V t7<|V t12<|V t13<|V t14<|V di<|gro)
  exact ⟨oo, gr.wk x1⟩
end
end Go.Proofs.Ytnedigoajoflaaa.M

namespace Go.Proofs.Ytnedigoajoflaaa.M
open Go Go.AX
noncomputable section
set_option maxRecDepth 100000
theorem opBox (h : H) (x : Op) : ∃ h1, (h.newCells 80 [.int .i64 (.ofNat 0), .str [], .str [], .str [], .int .u64 (.ofNat 0), .int .i64 (.ofNat 0), .bool false, .bool false, .bool false]).sts h.nx 0 [.int .i64 x.kind, .str x.key, .str x.fin, .str x.val, .int .u64 (.ofNat x.rev), .int .i64 x.limit, .bool x.count, .bool x.keys, .bool x.prev] = h1 ∧ Og h h1 [] ∧ h1.nx = h.nx + 1 ∧
  cellAt h1 h.nx 0 = some (.int .i64 x.kind) ∧ cellAt h1 h.nx 1 = some (.str x.key) ∧ cellAt h1 h.nx 2 = some (.str x.fin) ∧ cellAt h1 h.nx 3 = some (.str x.val) ∧ cellAt h1 h.nx 4 = some (.int .u64 (.ofNat x.rev)) ∧ cellAt h1 h.nx 5 = some (.int .i64 x.limit) ∧ cellAt h1 h.nx 6 = some (.bool x.count) ∧ cellAt h1 h.nx 7 = some (.bool x.keys) ∧ cellAt h1 h.nx 8 = some (.bool x.prev) := by
 refine ⟨_, rfl, ((Og.refl _ _).new _ _).sts (.inr (Nat.le_refl _)), by rw [nx_sts, nx_new], ?_⟩
 have c : ∀ j, j < 9 → cellAt ((h.newCells 80 [.int .i64 (.ofNat 0), .str [], .str [], .str [], .int .u64 (.ofNat 0), .int .i64 (.ofNat 0), .bool false, .bool false, .bool false]).sts h.nx 0 x.cs) h.nx j = x.cs[j]? := fun j hj => by
  rw [cellAt_sts (by rw [wrAt_new, if_pos rfl]), if_pos ⟨rfl, Nat.zero_le _, by show j < 0 + 9; omega⟩, Nat.sub_zero]
 exact ⟨c 0 (by omega), c 1 (by omega), c 2 (by omega), c 3 (by omega), c 4 (by omega), c 5 (by omega), c 6 (by omega), c 7 (by omega), c 8 (by omega)⟩
abbrev IV := List (List Nat × Nat)
def mI (X : IV) : List (List Nat × AV) := X.map fun p => (p.1, .int .i64 (.ofNat p.2))
def getI (k : List Nat) (X : IV) : Nat := ((X.find? fun p => decide (k = p.1)).map (·.2)).getD 0
def putI (k : List Nat) (n : Nat) : IV → IV
 | [] => [(k, n)]
 | (a, x) :: X => if k = a then (a, n) :: X else (a, x) :: putI k n X
theorem put_mI (k : List Nat) (n : Nat) : ∀ X : IV, mapPut k (.int .i64 (.ofNat n)) (mI X) = mI (putI k n X)
 | [] => rfl
 | (a, x) :: X => by
  have ih := put_mI k n X
  show mapPut k _ ((a, AV.int .i64 (.ofNat x)) :: mI X) = _
  unfold mapPut putI
  by_cases q : k = a
  ·rw [if_pos q, if_pos q]; rfl
  ·rw [if_neg q, if_neg q, ih]; rfl
theorem get_mI (k : List Nat) (X : IV) : mapGet k (mI X) = ((X.find? fun p => decide (k = p.1)).map (·.2)).map fun n => AV.int .i64 (.ofNat n) := by
 unfold mapGet mI
 induction X with
 | nil => rfl
 | cons p W ih =>
  rw [List.map_cons, List.find?_cons, List.find?_cons]
  by_cases q : k = p.1
  ·simp [q]
  ·simp only [decide_eq_false q]; exact ih
theorem u132a : P.underlying 132 = some (.map 9 3):= by kernel_rfl
theorem z3a : zeroA P 3 = some (.int .i64 (.ofNat 0)):= by kernel_rfl
theorem mk132 (tm : T AV) (h : H) : execA P tm h (.makeMap 132 none) = .val (.map h.nx) (h.alloc (.map [] 0)):= by simp only [execA, u132a, evalO]
theorem look_mI {h : H} {r : Nat} {X : IV} (m : MapK encS h r (mI X)) (k : List Nat) : lookupA P 132 (.map r) (.str k) false h = some (.int .i64 (.ofNat (getI k X))) := by
 have h1 := lookup_k (P := P) u132a k9m z3a m k false
 rw [get_mI] at h1
 unfold getI
 cases q : ((X.find? fun p => decide (k = p.1)).map (·.2)) with
 | none => rw [q] at h1; exact h1
 | some x => rw [q] at h1; exact h1
theorem getI_le {k : List Nat} {n : Nat} : ∀ {X : IV}, (∀ p, p ∈ X → p.2 ≤ n) → getI k X ≤ n
 | [], _ => Nat.zero_le _
 | p :: X, h => by
  have ih := getI_le (k := k) (X := X) fun q hq => h q (by simp [hq])
  unfold getI at ih ⊢
  rw [List.find?_cons]
  by_cases q : k = p.1
  ·simp only [q, decide_true]; exact h p (by simp)
  ·simp only [decide_eq_false q]; exact ih
theorem putI_le {k : List Nat} {m n : Nat} (hm : m ≤ n) : ∀ {X : IV}, (∀ p, p ∈ X → p.2 ≤ n) → ∀ p, p ∈ putI k m X → p.2 ≤ n
 | [], _, p, hp => by
  unfold putI at hp; rw [List.mem_singleton] at hp; subst hp; exact hm
 | (a, x) :: X, h, p, hp => by
  unfold putI at hp
  split at hp
  ·rcases List.mem_cons.1 hp with rfl | hp
   ·exact hm
   ·exact h p (by simp [hp])
  ·rcases List.mem_cons.1 hp with rfl | hp
   ·exact h _ (by simp)
   ·exact putI_le hm (fun q hq => h q (by simp [hq])) p hp
def bump (X : IV) (o : Op) : IV := if o.kind == .ofNat 1 then putI o.key (getI o.key X + 1) X else X
def putsV (l : List Op) : IV := l.foldl bump []
theorem putsV_s {l : List Op} {i : Nat} {o : Op} (h : l[i]? = some o) : putsV (l.take (i + 1)) = bump (putsV (l.take i)) o := by
 unfold putsV
 rw [List.take_add_one, h, List.foldl_append]; rfl
def badB (o : Op) (p : List Nat × Nat) : Bool := decide (1 < p.2) || ((o.kind == .ofNat 2) && liesB p.1 o.key o.fin)
def TwP (l : List Op) : Prop := ∃ o, o ∈ l ∧ ∃ p, p ∈ putsV l ∧ badB o p = true
theorem mI_split {R : IV} {p : List Nat × AV} {R1 R2 : List (List Nat × AV)} (h : mI R = R1 ++ p :: R2) : ∃ S1 x S2, R = S1 ++ x :: S2 ∧ mI S1 = R1 ∧ p = (x.1, .int .i64 (.ofNat x.2)) ∧ mI S2 = R2 := by
 unfold mI at h
 obtain ⟨S1, S', e, q1, q2⟩ := List.map_eq_append_iff.1 h
 obtain ⟨x, S2, e2, q3, q4⟩ := List.map_eq_cons_iff.1 q2
 subst e2
 exact ⟨S1, x, S2, e, q1, q3.symm, q4⟩
theorem mI_app (A B : IV) : mI (A ++ B) = mI A ++ mI B:= by unfold mI; rw [List.map_append]
theorem perm_step {α : Type} {V S1 S2 L : List α} {x : α} (h : (V ++ (S1 ++ x :: S2)).Perm L) : (V ++ [x] ++ (S1 ++ S2)).Perm L := by
 refine List.Perm.trans ?_ h
 rw [List.append_assoc]
 refine List.Perm.append_left V ?_
 rw [List.singleton_append]
 exact List.perm_middle.symm
structure TaI (h0 : H) (r : Nat) (va : AV) (l : List Op) (m : Nat) (ds : List Nat) (tm : T AV) (h : H) (i : Nat) : Prop where
 ds : ds = []
 nn : m = l.length - i
 ii : i ≤ l.length
 t0 : tm.get 0 = some va
 t3 : tm.get 3 = some (.map r)
 t11 : tm.get 11 = some va
 t12 : tm.get 12 = some (.int .i64 (.ofNat l.length))
 t13 : tm.get 13 = some (.int .i64 (.ofNat i))
 mp : MapK encS h r (mI (putsV (l.take i)))
 le : ∀ p, p ∈ putsV (l.take i) → p.2 ≤ i
 oo : Og h0 h []
structure TbI (h0 : H) (r : Nat) (va : AV) (l : List Op) (m : Nat) (ds : List Nat) (tm : T AV) (h : H) (i : Nat) : Prop where
 ds : ds = []
 nn : m = l.length - i
 ii : i ≤ l.length
 t3 : tm.get 3 = some (.map r)
 t26 : tm.get 26 = some va
 t27 : tm.get 27 = some (.int .i64 (.ofNat l.length))
 t28 : tm.get 28 = some (.int .i64 (.ofNat i))
 mp : MapK encS h r (mI (putsV l))
 no : ∀ j o, j < i → l[j]? = some o → ∀ p, p ∈ putsV l → badB o p = false
 oo : Og h0 h []
structure TcI (h0 : H) (r b7 it : Nat) (va : AV) (l : List Op) (i : Nat) (x : Op) (m : Nat) (ds : List Nat) (tm : T AV) (h : H) (V R : IV) : Prop where
 ds : ds = []
 nn : m = R.length
 pm : (V ++ R).Perm (putsV l)
 no : ∀ p, p ∈ V → badB x p = false
 t3 : tm.get 3 = some (.map r)
 t7 : tm.get 7 = some (.ptr b7 0)
 t26 : tm.get 26 = some va
 t27 : tm.get 27 = some (.int .i64 (.ofNat l.length))
 t28 : tm.get 28 = some (.int .i64 (.ofNat i))
 t33 : tm.get 33 = some (.ptr it 0)
 mp : MapK encS h r (mI (putsV l))
 rg : RngK encS h it r (mI (putsV l)) (mI V) (mI R)
 c0 : cellAt h b7 0 = some (.int .i64 x.kind)
 c1 : cellAt h b7 1 = some (.str x.key)
 c2 : cellAt h b7 2 = some (.str x.fin)
 lt : b7 < h.nx
 ne : b7 ≠ it
 ge : h0.nx ≤ it
 nr : it ≠ r
 oo : Og h0 h []
set_option maxHeartbeats 2000000 in
theorem twiceC (h0 : H) (va : AV) (l : List Op) (sl : SliceAt h0 va l.length (l.flatMap Op.cs)) (hz : l.length ≤ 1000000) : PushC P (.enter 39 [va] h0) (fun v h' => ∃ b, SaysG h0 (.bool b) v h' ∧ (b = true ↔ TwP l)) := by
 have hlen := sl.len (P := P) u29a
 refine pushC_of_codeW (fn := Try.f39) (c := bodyC Try.f39) Try.func39 rfl ?_
 show codeW P 39 55 none _ _ _ _ _
 refine codeW_root ?_
 refine rN ?_ (V mk132<|hlen)
 refine st_loop (fun m ds tm h => ∃ i, TaI h0 h0.nx va l m ds tm h i) l.length rfl ⟨0, rfl, rfl, Nat.zero_le _, by exact sT, by exact sT, by exact sT, by exact sT, by exact sT, newMap h0 encS, (fun p hp => by cases hp), (Og.refl _ _).alloc _⟩ (fun m ds tm h hI => ?_)
 obtain ⟨i, rfl, rfl, ii, t0, t3, t11, t12, t13, mp, le, oo⟩ := hI
 by_cases hi : i < l.length
 ·have di : decide (i < l.length) = true := decide_eq_true hi
  have lt1 : (i < l.length) = True:= by simp [hi]
  obtain ⟨x, hx⟩ : ∃ x, l[i]? = some x := ⟨_, List.getElem?_eq_getElem hi⟩
  have slh := SliceAt.only oo.1 sl (fun _ _ => by simp)
  obtain ⟨bv, ov, cv, rfl, hbv, -⟩ := sl.place (by omega)
  obtain ⟨q0, q1, q2, q3, q4, q5, q6, q7, q8⟩ := Op.at slh hx
  obtain ⟨h1, h1e, o1, x1, y0, y1, y2, y3, y4, y5, y6, y7, y8⟩ := opBox h x
  have m1 := mp.keep o1.1 (by simp)
  have w1 : wrapF .i64 (Int.ofNat i + Int.ofNat 1) = Int.ofNat (i + 1) := i64_add (by omega)
  have hs := putsV_s hx
  cases q : x.kind == .ofNat 1 with
  | false =>
   have e : bump (putsV (l.take i)) x = putsV (l.take i):= by unfold bump; rw [q]; rfl
   rw [e] at hs
   refine rN ?_ (V t0<|V t3<|V t11<|V t12<|V t13<|V di<|V lt1<|V q0<|V q1<|V q2<|V q3<|V q4<|V q5<|V q6<|V q7<|V q8<|V h1e<|V y0<|V y1<|V q<|w1)
   exact ⟨l.length - (i + 1), by omega, i + 1, rfl, rfl, by omega, by exact sT, by exact sT, by exact sT, by exact sT, by exact sT, by rw [hs]; exact m1, by rw [hs]; exact fun p hp => by have := le p hp; omega, oo.t o1⟩
  | true =>
   have e : bump (putsV (l.take i)) x = putI x.key (getI x.key (putsV (l.take i)) + 1) (putsV (l.take i)):= by unfold bump; rw [q]; rfl
   rw [e] at hs
   have lk := look_mI m1 x.key
   have hg := getI_le (k := x.key) le
   have wg : wrapF .i64 (Int.ofNat (getI x.key (putsV (l.take i))) + Int.ofNat 1) = Int.ofNat (getI x.key (putsV (l.take i)) + 1) := i64_add (by omega)
   obtain ⟨h2, hu, m2, x2, o2, g2⟩ := update_k (P := P) u132a k9m m1 x.key (.int .i64 (.ofNat (getI x.key (putsV (l.take i)) + 1)))
   rw [put_mI] at m2
   have ltr := mp.lt
   have oo2 : Og h0 h2 [] := ⟨⟨by have := oo.1.1; have := o1.1.1; omega, fun c hc _ => by rw [o2.2 c (by have := oo.1.1; have := o1.1.1; omega) (by simp; omega)]; exact (oo.t o1).1.2 c hc (by simp)⟩, g2.trans (oo.t o1).2⟩
   repeat' (first | ((with_reducible refine st1 ?_); (conv => whnf); (with_reducible refine ⟨?_⟩)) | ((with_reducible refine retW_intro rfl ?_); (conv => arg 2; whnf)) | ((with_reducible first | refine iB ?_ ?_ | refine gWt ?_ ?_ | refine gWf ?_ ?_) <;> intro hb <;> (try simp only [hb])) | (simp only [B, F, reduceLT, reduceLeDiff, reduceEqDiff, reduceAdd, reduceMul, reduceSub, ↓reduceIte, eq_self, t0, t3, t11, t12, t13, di, lt1, q0, q1, q2, q3, q4, q5, q6, q7, q8, h1e, y0, y1, q, w1, @ex_lookup, lk, wg, @ex_mapUpdate, hu, oH_some]))
   exact ⟨l.length - (i + 1), by omega, i + 1, rfl, rfl, by omega, by exact sT, by exact sT, by exact sT, by exact sT, by exact sT, by rw [hs]; exact m2, by rw [hs]; exact putI_le (by omega) (fun p hp => by have := le p hp; omega), oo2⟩
 ·have di : decide (i < l.length) = false := decide_eq_false hi
  obtain rfl : i = l.length:= by omega
  rw [List.take_length] at mp
  refine rN ?_ (V t0<|V t3<|V t11<|V t12<|V t13<|V di<|hlen)
  clear t11 t12 t13
  refine st_loop (fun m ds tm h => ∃ i, TbI h0 h0.nx va l m ds tm h i) l.length rfl ⟨0, rfl, rfl, Nat.zero_le _, by exact sT, by exact sT, by exact sT, by exact sT, mp, (fun j o hj => absurd hj (by omega)), oo⟩ (fun m ds tm h hI => ?_)
  clear t0 t3 mp oo le
  obtain ⟨i, rfl, rfl, ii, t3, t26, t27, t28, mp, no, oo⟩ := hI
  by_cases hi : i < l.length
  ·have di : decide (i < l.length) = true := decide_eq_true hi
   have lt1 : (i < l.length) = True:= by simp [hi]
   obtain ⟨x, hx⟩ : ∃ x, l[i]? = some x := ⟨_, List.getElem?_eq_getElem hi⟩
   have slh := SliceAt.only oo.1 sl (fun _ _ => by simp)
   obtain ⟨bv, ov, cv, rfl, hbv, -⟩ := sl.place (by omega)
   obtain ⟨q0, q1, q2, q3, q4, q5, q6, q7, q8⟩ := Op.at slh hx
   obtain ⟨h1, h1e, o1, x1, y0, y1, y2, y3, y4, y5, y6, y7, y8⟩ := opBox h x
   have m1 := mp.keep o1.1 (by simp)
   have w1 : wrapF .i64 (Int.ofNat i + Int.ofNat 1) = Int.ofNat (i + 1) := i64_add (by omega)
   obtain ⟨h3, hrg, rg3, x3, o3, gg3⟩ := range_k (P := P) m1 u132a
   have o03 : Og h1 h3 [] := ⟨o3, gg3⟩
   have lr := mp.lt
   repeat' (first | ((with_reducible refine st1 ?_); (conv => whnf); (with_reducible refine ⟨?_⟩)) | ((with_reducible refine retW_intro rfl ?_); (conv => arg 2; whnf)) | ((with_reducible first | refine iB ?_ ?_ | refine gWt ?_ ?_ | refine gWf ?_ ?_) <;> intro hb <;> (try simp only [hb])) | (simp only [B, F, reduceLT, reduceLeDiff, reduceEqDiff, reduceAdd, reduceMul, reduceSub, ↓reduceIte, eq_self, t3, t26, t27, t28, di, lt1, q0, q1, q2, q3, q4, q5, q6, q7, q8, h1e, @ex_range, hrg]))
   have lo := oo.1.1
   refine st_loop (fun m ds tm h' => ∃ V R, TcI h0 h0.nx h.nx h1.nx (.slice bv ov l.length cv) l i x m ds tm h' V R) (putsV l).length rfl ⟨[], putsV l, rfl, rfl, List.Perm.refl _, (fun p hp => by cases hp), by exact sT, by exact sT, by exact sT, by exact sT, by exact sT, by exact sT, m1.keep o3 (by simp), rg3, kc y0 o03 (by omega) (by simp), kc y1 o03 (by omega) (by simp), kc y2 o03 (by omega) (by simp), by omega, by omega, by omega, by omega, (oo.t o1).t o03⟩ (fun m ds tm h4 hI => ?_)
   clear t3 t26 t27 t28 mp
   obtain ⟨V, R, rfl, rfl, pm, no2, t3, t7, t26, t27, t28, t33, mp, rg, c0, c1, c2, lt, ne, ge, nr, oo4⟩ := hI
   repeat' (first | (with_reducible refine stopC [0, 0, 0, 1, 1, 0, 0, 1, 1, 0, 0, 1, 0, 1, 1, 1] ?_) | ((with_reducible refine st1 ?_); (conv => whnf); (with_reducible refine ⟨?_⟩)) | ((with_reducible refine retW_intro rfl ?_); (conv => arg 2; whnf)) | ((with_reducible first | refine iB ?_ ?_ | refine gWt ?_ ?_ | refine gWf ?_ ?_) <;> intro hb <;> (try simp only [hb])) | (simp only [B, F, reduceLT, reduceLeDiff, reduceEqDiff, reduceAdd, reduceMul, reduceSub, ↓reduceIte, eq_self]))
   refine ⟨pk1 ?_⟩
   (conv => whnf)
   with_reducible refine ⟨?_⟩
   refine pick_k rfl rfl t33 rg (fun hR => ?_) (fun p R1 R2 h5 hR rg5 x5 o5 gg5 hen => ?_)
   ·obtain rfl : R = []:= by unfold mI at hR; exact List.map_eq_nil_iff.1 hR
    rw [List.append_nil] at pm
    repeat' (first | ((with_reducible refine st1 ?_); (conv => whnf); (with_reducible refine ⟨?_⟩)) | ((with_reducible refine retW_intro rfl ?_); (conv => arg 2; whnf)) | ((with_reducible first | refine iB ?_ ?_ | refine gWt ?_ ?_ | refine gWf ?_ ?_) <;> intro hb <;> (try simp only [hb])) | (simp only [B, F, reduceLT, reduceLeDiff, reduceEqDiff, reduceAdd, reduceMul, reduceSub, ↓reduceIte, eq_self, t3, t7, t26, t27, t28, w1]))
    refine ⟨l.length - (i + 1), by omega, i + 1, rfl, rfl, by omega, by exact sT, by exact sT, by exact sT, by exact sT, mp, fun j o hj ho p hp => ?_, oo4⟩
    by_cases e : j < i
    ·exact no j o e ho p hp
    ·obtain rfl : j = i:= by omega
     rw [hx] at ho; cases ho
     exact no2 p (pm.mem_iff.2 hp)
   ·obtain ⟨S1, ⟨k, n⟩, S2, rfl, e1, rfl, e2⟩ := mI_split hR
    have hen5 := hen h5 rfl rfl
    have o45 : Og h4 h5 [h1.nx] := ⟨o5, gg5⟩
    have lo4 := oo4.1.1
    have lo2 := oo.1.1
    have oo5 : Og h0 h5 [] := ⟨⟨by omega, fun c hc _ => by rw [o5.2 c (by omega) (by simp; omega)]; exact oo4.1.2 c hc (by simp)⟩, gg5.trans oo4.2⟩
    have hmem : (k, n) ∈ putsV l := pm.mem_iff.1 (by simp)
    have d0 := kc c0 o45 lt (by simp; exact ne)
    have d1 := kc c1 o45 lt (by simp; exact ne)
    have d2 := kc c2 o45 lt (by simp; exact ne)
    have mp5 := mp.keep o5 (by simp; omega)
    have yes : ∀ h', Og h0 h' [] → badB x (k, n) = true → ∃ b, SaysG h0 (.bool b) (.bool true) h' ∧ (b = true ↔ TwP l) := fun h' o hb => ⟨true, ⟨rfl, o⟩, fun _ => ⟨x, List.mem_of_getElem? hx, _, hmem, hb⟩, fun _ => rfl⟩
    have next : ∀ (tm2 : T AV) h', Og h5 h' [] → badB x (k, n) = false → tm2.get 3 = some (.map h0.nx) → tm2.get 7 = some (.ptr h.nx 0) → tm2.get 26 = some (AV.slice bv ov l.length cv) → tm2.get 27 = some (.int .i64 (.ofNat l.length)) → tm2.get 28 = some (.int .i64 (.ofNat i)) → tm2.get 33 = some (.ptr h1.nx 0) →
      ∃ m, m < (S1 ++ (k, n) :: S2).length ∧ ∃ V R, TcI h0 h0.nx h.nx h1.nx (AV.slice bv ov l.length cv) l i x m [] tm2 h' V R := fun tm2 h' o hb g3 g7 g26 g27 g28 g33 =>
     ⟨(S1 ++ S2).length, by simp, V ++ [(k, n)], S1 ++ S2, rfl, rfl, perm_step pm, fun p hp => by
      rcases List.mem_append.1 hp with hp | hp
      ·exact no2 p hp
      ·rw [List.mem_singleton] at hp; subst hp; exact hb, g3, g7, g26, g27, g28, g33, mp5.keep o.1 (by simp), by rw [mI_app, mI_app, e1, e2]; exact rg5.keep o.1 (by simp) (by simp), kc d0 o (by omega) (by simp), kc d1 o (by omega) (by simp), kc d2 o (by omega) (by simp), by have := o.1.1; omega, ne, ge, nr, oo5.t o⟩
    by_cases q : 1 < n
    ·have dn : decide (1 < n) = true := decide_eq_true q
     repeat' (first | ((with_reducible refine st1 ?_); (conv => whnf); (with_reducible refine ⟨?_⟩)) | ((with_reducible refine retW_intro rfl ?_); (conv => arg 2; whnf)) | ((with_reducible first | refine iB ?_ ?_ | refine gWt ?_ ?_ | refine gWf ?_ ?_) <;> intro hb <;> (try simp only [hb])) | (simp only [B, F, reduceLT, reduceLeDiff, reduceEqDiff, reduceAdd, reduceMul, reduceSub, ↓reduceIte, eq_self, t3, t7, t26, t27, t28, t33, @ex_entry, hen5, dn, d0, d1, d2]))
     exact yes _ oo5 (by unfold badB; simp only [dn, Bool.true_or])
    ·have dn : decide (1 < n) = false := decide_eq_false q
     cases qk : x.kind == .ofNat 2 with
     | false =>
      repeat' (first | ((with_reducible refine st1 ?_); (conv => whnf); (with_reducible refine ⟨?_⟩)) | ((with_reducible refine retW_intro rfl ?_); (conv => arg 2; whnf)) | ((with_reducible first | refine iB ?_ ?_ | refine gWt ?_ ?_ | refine gWf ?_ ?_) <;> intro hb <;> (try simp only [hb])) | (simp only [B, F, reduceLT, reduceLeDiff, reduceEqDiff, reduceAdd, reduceMul, reduceSub, ↓reduceIte, eq_self, t3, t7, t26, t27, t28, t33, @ex_entry, hen5, dn, d0, d1, d2, qk]))
      exact next _ _ (Og.refl _ _) (by unfold badB; simp only [dn, qk, Bool.false_or, Bool.false_and]) (by exact sT) (by exact sT) (by exact sT) (by exact sT) (by exact sT) (by exact sT)
     | true =>
      repeat' (first | ((with_reducible refine st1 ?_); (conv => whnf); (with_reducible refine ⟨?_⟩)) | ((with_reducible refine retW_intro rfl ?_); (conv => arg 2; whnf)) | ((with_reducible first | refine iB ?_ ?_ | refine gWt ?_ ?_ | refine gWf ?_ ?_) <;> intro hb <;> (try simp only [hb])) | (simp only [B, F, reduceLT, reduceLeDiff, reduceEqDiff, reduceAdd, reduceMul, reduceSub, ↓reduceIte, eq_self, t3, t7, t26, t27, t28, t33, @ex_entry, hen5, dn, d0, d1, d2, qk]))
      refine ((liesC h5 k x.key x.fin).call P).mono P ?_
      rintro _ h6 ⟨rfl, o6⟩
      cases ql : liesB k x.key x.fin with
      | false =>
       refine rN ?_ (ql)
       exact next _ _ o6 (by unfold badB; simp only [dn, qk, ql, Bool.false_or, Bool.true_and]) (by exact sT) (by exact sT) (by exact sT) (by exact sT) (by exact sT) (by exact sT)
      | true =>
       refine rN ?_ (ql)
       exact yes _ (oo5.t o6) (by unfold badB; simp only [dn, qk, ql, Bool.false_or, Bool.true_and])
  ·have di : decide (i < l.length) = false := decide_eq_false hi
   obtain rfl : i = l.length:= by omega
   refine rN ?_ (V t3<|V t26<|V t27<|V t28<|di)
   refine ⟨false, ⟨rfl, oo⟩, fun e => (by cases e), fun ⟨o, ho, p, hp, hb⟩ => ?_⟩
   obtain ⟨j, hj⟩ := List.mem_iff_getElem?.1 ho
   rw [no j o (List.getElem?_eq_some_iff.1 hj).1 hj p hp] at hb; exact hb
end
end Go.Proofs.Ytnedigoajoflaaa.M

namespace Go.Proofs.Ytnedigoajoflaaa.M
open Go Go.AX
noncomputable section
set_option maxRecDepth 100000
theorem flat_take {α : Type} {cs : α → List AV} {sz : Nat} (hs : ∀ x, (cs x).length = sz) : ∀ (L : List α) (i : Nat), (L.take i).flatMap cs = (L.flatMap cs).take (i * sz)
 | [], i => by simp
 | a :: L, 0 => by simp
 | a :: L, i + 1 => by
  rw [List.take_succ_cons, List.flatMap_cons, List.flatMap_cons, flat_take hs L i, List.take_append, List.take_of_length_le (l := cs a) (by rw [hs, Nat.add_mul]; omega), hs]
  congr 2
  rw [Nat.add_mul]; omega
theorem kvBox (h : H) (x : KV) : ∃ h1, (h.newCells 55 [.str [], .str [], .int .u64 (.ofNat 0), .int .u64 (.ofNat 0), .int .u64 (.ofNat 0)]).sts h.nx 0 [.str x.key, .str x.val, .int .u64 (.ofNat x.cre), .int .u64 (.ofNat x.mod), .int .u64 (.ofNat x.ver)] = h1 ∧ Og h h1 [] ∧ h1.nx = h.nx + 1 ∧
  cellAt h1 h.nx 0 = some (.str x.key) ∧ cellAt h1 h.nx 1 = some (.str x.val) ∧ cellAt h1 h.nx 2 = some (.int .u64 (.ofNat x.cre)) ∧ cellAt h1 h.nx 3 = some (.int .u64 (.ofNat x.mod)) ∧ cellAt h1 h.nx 4 = some (.int .u64 (.ofNat x.ver)) ∧ wrAt h1 h.nx = true := by
 refine ⟨_, rfl, ((Og.refl _ _).new _ _).sts (.inr (Nat.le_refl _)), by rw [nx_sts, nx_new], ?_⟩
 have c : ∀ j, j < 5 → cellAt ((h.newCells 55 [.str [], .str [], .int .u64 (.ofNat 0), .int .u64 (.ofNat 0), .int .u64 (.ofNat 0)]).sts h.nx 0 x.cs) h.nx j = x.cs[j]? := fun j hj => by
  rw [cellAt_sts (by rw [wrAt_new, if_pos rfl]), if_pos ⟨rfl, Nat.zero_le _, by show j < 0 + 5; omega⟩, Nat.sub_zero]
 exact ⟨c 0 (by omega), c 1 (by omega), c 2 (by omega), c 3 (by omega), c 4 (by omega), by rw [wrAt_sts, wrAt_new, if_pos rfl]⟩
def atK (k : List Nat) : List KV → Nat
 | [] => 0
 | y :: ys => if listLtB y.key k then atK k ys + 1 else 0
def sameK (k : List Nat) (l : List KV) : Bool := match l[atK k l]? with | some y => decide (y.key = k) | none => false
def insA (x : KV) (k : List Nat) (l : List KV) : List KV := if sameK k l then l else l.take (atK k l) ++ x :: l.drop (atK k l)
def stepA (L : List Rec) (key fin : List Nat) (main : Nat) (out : List KV) (r : Rec) : List KV :=
 if (findP r.kv.key main L).2 && liesB r.kv.key key fin then insA (findP r.kv.key main L).1 r.kv.key out else out
end
end Go.Proofs.Ytnedigoajoflaaa.M

namespace Go.AX
noncomputable section
theorem CellsAt.put {h : H} {b o : Nat} {cs : List AV} (c : CellsAt h b o cs) (w : wrAt h b = true) {j : Nat} (hj : j < cs.length) (v : AV) : CellsAt (h.sts b (o + j) [v]) b o (cs.set j v) := fun i hi => by
 rw [cellAt_sts w]
 rw [List.length_set] at hi
 by_cases e : i = j
 ·subst e; rw [if_pos ⟨rfl, Nat.le_refl _, by simp⟩, List.getElem?_set_self hi]; simp
 ·rw [if_neg (by simp; omega), List.getElem?_set_ne (fun h => e h.symm)]; exact c i hi
theorem CellsAt.new (h : H) (t : TypeId) (l : List AV) : CellsAt (h.newCells t l) h.nx 0 l := fun i hi => by rw [cellAt_new, if_pos rfl, Nat.zero_add]
theorem CellsAt.sts {h : H} {b o : Nat} (w : wrAt h b = true) (l : List AV) : CellsAt (h.sts b o l) b o l := fun i hi => by
 rw [cellAt_sts w, if_pos ⟨rfl, Nat.le_add_right _ _, by omega⟩, Nat.add_sub_cancel_left]
theorem CellsAt.box (h : H) (t : TypeId) (z l : List AV) : CellsAt ((h.newCells t z).sts h.nx 0 l) h.nx 0 l := CellsAt.sts (by rw [wrAt_new, if_pos rfl]) l
theorem wr_new (h : H) (t : TypeId) (l : List AV) : wrAt (h.newCells t l) h.nx = true:= by rw [wrAt_new, if_pos rfl]
theorem CellsAt.row {h : H} {b : Nat} {cs : List AV} (c : CellsAt h b 0 cs) (h0 : 0 < cs.length) : h.row b 0 cs.length = some cs := row_ok (o := 0) (cs := cs) (fun j hj => c j hj) (fun e => by rw [e] at h0; simp at h0)
theorem SliceAt.move {h h' : H} {v : AV} {n : Nat} {cs : List AV} (sl : SliceAt h v n cs) (hx : h.nx ≤ h'.nx) (e : ∀ b, blkOf v = some b → h'.t.get b = h.t.get b) : SliceAt h' v n cs := by
 cases sl with
 | cell b o n cap cs hb hc => exact .cell b o n cap cs (Nat.lt_of_lt_of_le hb hx) (hc.of_get (e b rfl))
 | none => exact .none
 | zero => exact .zero
theorem CellsAt.u1 {h : H} {b : Nat} {a0 : AV} (c : CellsAt h b 0 [a0]) : cellAt h b 0 = some a0 := by
 have g : ∀ j, j < 1 → cellAt h b j = [a0][j]? := fun j hj => by have := c j hj; rwa [Nat.zero_add] at this
 exact g 0 (by omega)
theorem CellsAt.m1 {h : H} {b : Nat} {a0 : AV} (c0 : cellAt h b 0 = some a0) : CellsAt h b 0 [a0] := fun j hj => by
 rw [Nat.zero_add]
 match j, hj with
 | 0, _ => exact c0
 | j + 1, hj => exact absurd hj (by show ¬ j + 1 < 1; omega)
theorem CellsAt.u2 {h : H} {b : Nat} {a0 a1 : AV} (c : CellsAt h b 0 [a0, a1]) : cellAt h b 0 = some a0 ∧ cellAt h b 1 = some a1 := by
 have g : ∀ j, j < 2 → cellAt h b j = [a0, a1][j]? := fun j hj => by have := c j hj; rwa [Nat.zero_add] at this
 exact ⟨g 0 (by omega), g 1 (by omega)⟩
theorem CellsAt.m2 {h : H} {b : Nat} {a0 a1 : AV} (c0 : cellAt h b 0 = some a0) (c1 : cellAt h b 1 = some a1) : CellsAt h b 0 [a0, a1] := fun j hj => by
 rw [Nat.zero_add]
 match j, hj with
 | 0, _ => exact c0
 | 1, _ => exact c1
 | j + 2, hj => exact absurd hj (by show ¬ j + 2 < 2; omega)
theorem CellsAt.u3 {h : H} {b : Nat} {a0 a1 a2 : AV} (c : CellsAt h b 0 [a0, a1, a2]) : cellAt h b 0 = some a0 ∧ cellAt h b 1 = some a1 ∧ cellAt h b 2 = some a2 := by
 have g : ∀ j, j < 3 → cellAt h b j = [a0, a1, a2][j]? := fun j hj => by have := c j hj; rwa [Nat.zero_add] at this
 exact ⟨g 0 (by omega), g 1 (by omega), g 2 (by omega)⟩
theorem CellsAt.m3 {h : H} {b : Nat} {a0 a1 a2 : AV} (c0 : cellAt h b 0 = some a0) (c1 : cellAt h b 1 = some a1) (c2 : cellAt h b 2 = some a2) : CellsAt h b 0 [a0, a1, a2] := fun j hj => by
 rw [Nat.zero_add]
 match j, hj with
 | 0, _ => exact c0
 | 1, _ => exact c1
 | 2, _ => exact c2
 | j + 3, hj => exact absurd hj (by show ¬ j + 3 < 3; omega)
theorem CellsAt.u4 {h : H} {b : Nat} {a0 a1 a2 a3 : AV} (c : CellsAt h b 0 [a0, a1, a2, a3]) : cellAt h b 0 = some a0 ∧ cellAt h b 1 = some a1 ∧ cellAt h b 2 = some a2 ∧ cellAt h b 3 = some a3 := by
 have g : ∀ j, j < 4 → cellAt h b j = [a0, a1, a2, a3][j]? := fun j hj => by have := c j hj; rwa [Nat.zero_add] at this
 exact ⟨g 0 (by omega), g 1 (by omega), g 2 (by omega), g 3 (by omega)⟩
theorem CellsAt.m4 {h : H} {b : Nat} {a0 a1 a2 a3 : AV} (c0 : cellAt h b 0 = some a0) (c1 : cellAt h b 1 = some a1) (c2 : cellAt h b 2 = some a2) (c3 : cellAt h b 3 = some a3) : CellsAt h b 0 [a0, a1, a2, a3] := fun j hj => by
 rw [Nat.zero_add]
 match j, hj with
 | 0, _ => exact c0
 | 1, _ => exact c1
 | 2, _ => exact c2
 | 3, _ => exact c3
 | j + 4, hj => exact absurd hj (by show ¬ j + 4 < 4; omega)
theorem CellsAt.u5 {h : H} {b : Nat} {a0 a1 a2 a3 a4 : AV} (c : CellsAt h b 0 [a0, a1, a2, a3, a4]) : cellAt h b 0 = some a0 ∧ cellAt h b 1 = some a1 ∧ cellAt h b 2 = some a2 ∧ cellAt h b 3 = some a3 ∧ cellAt h b 4 = some a4 := by
 have g : ∀ j, j < 5 → cellAt h b j = [a0, a1, a2, a3, a4][j]? := fun j hj => by have := c j hj; rwa [Nat.zero_add] at this
 exact ⟨g 0 (by omega), g 1 (by omega), g 2 (by omega), g 3 (by omega), g 4 (by omega)⟩
theorem CellsAt.m5 {h : H} {b : Nat} {a0 a1 a2 a3 a4 : AV} (c0 : cellAt h b 0 = some a0) (c1 : cellAt h b 1 = some a1) (c2 : cellAt h b 2 = some a2) (c3 : cellAt h b 3 = some a3) (c4 : cellAt h b 4 = some a4) : CellsAt h b 0 [a0, a1, a2, a3, a4] := fun j hj => by
 rw [Nat.zero_add]
 match j, hj with
 | 0, _ => exact c0
 | 1, _ => exact c1
 | 2, _ => exact c2
 | 3, _ => exact c3
 | 4, _ => exact c4
 | j + 5, hj => exact absurd hj (by show ¬ j + 5 < 5; omega)
theorem CellsAt.u6 {h : H} {b : Nat} {a0 a1 a2 a3 a4 a5 : AV} (c : CellsAt h b 0 [a0, a1, a2, a3, a4, a5]) : cellAt h b 0 = some a0 ∧ cellAt h b 1 = some a1 ∧ cellAt h b 2 = some a2 ∧ cellAt h b 3 = some a3 ∧ cellAt h b 4 = some a4 ∧ cellAt h b 5 = some a5 := by
 have g : ∀ j, j < 6 → cellAt h b j = [a0, a1, a2, a3, a4, a5][j]? := fun j hj => by have := c j hj; rwa [Nat.zero_add] at this
 exact ⟨g 0 (by omega), g 1 (by omega), g 2 (by omega), g 3 (by omega), g 4 (by omega), g 5 (by omega)⟩
theorem CellsAt.m6 {h : H} {b : Nat} {a0 a1 a2 a3 a4 a5 : AV} (c0 : cellAt h b 0 = some a0) (c1 : cellAt h b 1 = some a1) (c2 : cellAt h b 2 = some a2) (c3 : cellAt h b 3 = some a3) (c4 : cellAt h b 4 = some a4) (c5 : cellAt h b 5 = some a5) : CellsAt h b 0 [a0, a1, a2, a3, a4, a5] := fun j hj => by
 rw [Nat.zero_add]
 match j, hj with
 | 0, _ => exact c0
 | 1, _ => exact c1
 | 2, _ => exact c2
 | 3, _ => exact c3
 | 4, _ => exact c4
 | 5, _ => exact c5
 | j + 6, hj => exact absurd hj (by show ¬ j + 6 < 6; omega)
theorem CellsAt.u7 {h : H} {b : Nat} {a0 a1 a2 a3 a4 a5 a6 : AV} (c : CellsAt h b 0 [a0, a1, a2, a3, a4, a5, a6]) : cellAt h b 0 = some a0 ∧ cellAt h b 1 = some a1 ∧ cellAt h b 2 = some a2 ∧ cellAt h b 3 = some a3 ∧ cellAt h b 4 = some a4 ∧ cellAt h b 5 = some a5 ∧ cellAt h b 6 = some a6 := by
 have g : ∀ j, j < 7 → cellAt h b j = [a0, a1, a2, a3, a4, a5, a6][j]? := fun j hj => by have := c j hj; rwa [Nat.zero_add] at this
 exact ⟨g 0 (by omega), g 1 (by omega), g 2 (by omega), g 3 (by omega), g 4 (by omega), g 5 (by omega), g 6 (by omega)⟩
theorem CellsAt.m7 {h : H} {b : Nat} {a0 a1 a2 a3 a4 a5 a6 : AV} (c0 : cellAt h b 0 = some a0) (c1 : cellAt h b 1 = some a1) (c2 : cellAt h b 2 = some a2) (c3 : cellAt h b 3 = some a3) (c4 : cellAt h b 4 = some a4) (c5 : cellAt h b 5 = some a5) (c6 : cellAt h b 6 = some a6) : CellsAt h b 0 [a0, a1, a2, a3, a4, a5, a6] := fun j hj => by
 rw [Nat.zero_add]
 match j, hj with
 | 0, _ => exact c0
 | 1, _ => exact c1
 | 2, _ => exact c2
 | 3, _ => exact c3
 | 4, _ => exact c4
 | 5, _ => exact c5
 | 6, _ => exact c6
 | j + 7, hj => exact absurd hj (by show ¬ j + 7 < 7; omega)
theorem CellsAt.u8 {h : H} {b : Nat} {a0 a1 a2 a3 a4 a5 a6 a7 : AV} (c : CellsAt h b 0 [a0, a1, a2, a3, a4, a5, a6, a7]) : cellAt h b 0 = some a0 ∧ cellAt h b 1 = some a1 ∧ cellAt h b 2 = some a2 ∧ cellAt h b 3 = some a3 ∧ cellAt h b 4 = some a4 ∧ cellAt h b 5 = some a5 ∧ cellAt h b 6 = some a6 ∧ cellAt h b 7 = some a7 := by
 have g : ∀ j, j < 8 → cellAt h b j = [a0, a1, a2, a3, a4, a5, a6, a7][j]? := fun j hj => by have := c j hj; rwa [Nat.zero_add] at this
 exact ⟨g 0 (by omega), g 1 (by omega), g 2 (by omega), g 3 (by omega), g 4 (by omega), g 5 (by omega), g 6 (by omega), g 7 (by omega)⟩
theorem CellsAt.m8 {h : H} {b : Nat} {a0 a1 a2 a3 a4 a5 a6 a7 : AV} (c0 : cellAt h b 0 = some a0) (c1 : cellAt h b 1 = some a1) (c2 : cellAt h b 2 = some a2) (c3 : cellAt h b 3 = some a3) (c4 : cellAt h b 4 = some a4) (c5 : cellAt h b 5 = some a5) (c6 : cellAt h b 6 = some a6) (c7 : cellAt h b 7 = some a7) : CellsAt h b 0 [a0, a1, a2, a3, a4, a5, a6, a7] := fun j hj => by
 rw [Nat.zero_add]
 match j, hj with
 | 0, _ => exact c0
 | 1, _ => exact c1
 | 2, _ => exact c2
 | 3, _ => exact c3
 | 4, _ => exact c4
 | 5, _ => exact c5
 | 6, _ => exact c6
 | 7, _ => exact c7
 | j + 8, hj => exact absurd hj (by show ¬ j + 8 < 8; omega)
theorem CellsAt.u9 {h : H} {b : Nat} {a0 a1 a2 a3 a4 a5 a6 a7 a8 : AV} (c : CellsAt h b 0 [a0, a1, a2, a3, a4, a5, a6, a7, a8]) : cellAt h b 0 = some a0 ∧ cellAt h b 1 = some a1 ∧ cellAt h b 2 = some a2 ∧ cellAt h b 3 = some a3 ∧ cellAt h b 4 = some a4 ∧ cellAt h b 5 = some a5 ∧ cellAt h b 6 = some a6 ∧ cellAt h b 7 = some a7 ∧ cellAt h b 8 = some a8 := by
 have g : ∀ j, j < 9 → cellAt h b j = [a0, a1, a2, a3, a4, a5, a6, a7, a8][j]? := fun j hj => by have := c j hj; rwa [Nat.zero_add] at this
 exact ⟨g 0 (by omega), g 1 (by omega), g 2 (by omega), g 3 (by omega), g 4 (by omega), g 5 (by omega), g 6 (by omega), g 7 (by omega), g 8 (by omega)⟩
theorem CellsAt.m9 {h : H} {b : Nat} {a0 a1 a2 a3 a4 a5 a6 a7 a8 : AV} (c0 : cellAt h b 0 = some a0) (c1 : cellAt h b 1 = some a1) (c2 : cellAt h b 2 = some a2) (c3 : cellAt h b 3 = some a3) (c4 : cellAt h b 4 = some a4) (c5 : cellAt h b 5 = some a5) (c6 : cellAt h b 6 = some a6) (c7 : cellAt h b 7 = some a7) (c8 : cellAt h b 8 = some a8) : CellsAt h b 0 [a0, a1, a2, a3, a4, a5, a6, a7, a8] := fun j hj => by
 rw [Nat.zero_add]
 match j, hj with
 | 0, _ => exact c0
 | 1, _ => exact c1
 | 2, _ => exact c2
 | 3, _ => exact c3
 | 4, _ => exact c4
 | 5, _ => exact c5
 | 6, _ => exact c6
 | 7, _ => exact c7
 | 8, _ => exact c8
 | j + 9, hj => exact absurd hj (by show ¬ j + 9 < 9; omega)
theorem CellsAt.u10 {h : H} {b : Nat} {a0 a1 a2 a3 a4 a5 a6 a7 a8 a9 : AV} (c : CellsAt h b 0 [a0, a1, a2, a3, a4, a5, a6, a7, a8, a9]) : cellAt h b 0 = some a0 ∧ cellAt h b 1 = some a1 ∧ cellAt h b 2 = some a2 ∧ cellAt h b 3 = some a3 ∧ cellAt h b 4 = some a4 ∧ cellAt h b 5 = some a5 ∧ cellAt h b 6 = some a6 ∧ cellAt h b 7 = some a7 ∧ cellAt h b 8 = some a8 ∧ cellAt h b 9 = some a9 := by
 have g : ∀ j, j < 10 → cellAt h b j = [a0, a1, a2, a3, a4, a5, a6, a7, a8, a9][j]? := fun j hj => by have := c j hj; rwa [Nat.zero_add] at this
 exact ⟨g 0 (by omega), g 1 (by omega), g 2 (by omega), g 3 (by omega), g 4 (by omega), g 5 (by omega), g 6 (by omega), g 7 (by omega), g 8 (by omega), g 9 (by omega)⟩
theorem CellsAt.m10 {h : H} {b : Nat} {a0 a1 a2 a3 a4 a5 a6 a7 a8 a9 : AV} (c0 : cellAt h b 0 = some a0) (c1 : cellAt h b 1 = some a1) (c2 : cellAt h b 2 = some a2) (c3 : cellAt h b 3 = some a3) (c4 : cellAt h b 4 = some a4) (c5 : cellAt h b 5 = some a5) (c6 : cellAt h b 6 = some a6) (c7 : cellAt h b 7 = some a7) (c8 : cellAt h b 8 = some a8) (c9 : cellAt h b 9 = some a9) : CellsAt h b 0 [a0, a1, a2, a3, a4, a5, a6, a7, a8, a9] := fun j hj => by
 rw [Nat.zero_add]
 match j, hj with
 | 0, _ => exact c0
 | 1, _ => exact c1
 | 2, _ => exact c2
 | 3, _ => exact c3
 | 4, _ => exact c4
 | 5, _ => exact c5
 | 6, _ => exact c6
 | 7, _ => exact c7
 | 8, _ => exact c8
 | 9, _ => exact c9
 | j + 10, hj => exact absurd hj (by show ¬ j + 10 < 10; omega)
theorem CellsAt.u11 {h : H} {b : Nat} {a0 a1 a2 a3 a4 a5 a6 a7 a8 a9 a10 : AV} (c : CellsAt h b 0 [a0, a1, a2, a3, a4, a5, a6, a7, a8, a9, a10]) : cellAt h b 0 = some a0 ∧ cellAt h b 1 = some a1 ∧ cellAt h b 2 = some a2 ∧ cellAt h b 3 = some a3 ∧ cellAt h b 4 = some a4 ∧ cellAt h b 5 = some a5 ∧ cellAt h b 6 = some a6 ∧ cellAt h b 7 = some a7 ∧ cellAt h b 8 = some a8 ∧ cellAt h b 9 = some a9 ∧ cellAt h b 10 = some a10 := by
 have g : ∀ j, j < 11 → cellAt h b j = [a0, a1, a2, a3, a4, a5, a6, a7, a8, a9, a10][j]? := fun j hj => by have := c j hj; rwa [Nat.zero_add] at this
 exact ⟨g 0 (by omega), g 1 (by omega), g 2 (by omega), g 3 (by omega), g 4 (by omega), g 5 (by omega), g 6 (by omega), g 7 (by omega), g 8 (by omega), g 9 (by omega), g 10 (by omega)⟩
theorem CellsAt.m11 {h : H} {b : Nat} {a0 a1 a2 a3 a4 a5 a6 a7 a8 a9 a10 : AV} (c0 : cellAt h b 0 = some a0) (c1 : cellAt h b 1 = some a1) (c2 : cellAt h b 2 = some a2) (c3 : cellAt h b 3 = some a3) (c4 : cellAt h b 4 = some a4) (c5 : cellAt h b 5 = some a5) (c6 : cellAt h b 6 = some a6) (c7 : cellAt h b 7 = some a7) (c8 : cellAt h b 8 = some a8) (c9 : cellAt h b 9 = some a9) (c10 : cellAt h b 10 = some a10) : CellsAt h b 0 [a0, a1, a2, a3, a4, a5, a6, a7, a8, a9, a10] := fun j hj => by
 rw [Nat.zero_add]
 match j, hj with
 | 0, _ => exact c0
 | 1, _ => exact c1
 | 2, _ => exact c2
 | 3, _ => exact c3
 | 4, _ => exact c4
 | 5, _ => exact c5
 | 6, _ => exact c6
 | 7, _ => exact c7
 | 8, _ => exact c8
 | 9, _ => exact c9
 | 10, _ => exact c10
 | j + 11, hj => exact absurd hj (by show ¬ j + 11 < 11; omega)
theorem CellsAt.u12 {h : H} {b : Nat} {a0 a1 a2 a3 a4 a5 a6 a7 a8 a9 a10 a11 : AV} (c : CellsAt h b 0 [a0, a1, a2, a3, a4, a5, a6, a7, a8, a9, a10, a11]) : cellAt h b 0 = some a0 ∧ cellAt h b 1 = some a1 ∧ cellAt h b 2 = some a2 ∧ cellAt h b 3 = some a3 ∧ cellAt h b 4 = some a4 ∧ cellAt h b 5 = some a5 ∧ cellAt h b 6 = some a6 ∧ cellAt h b 7 = some a7 ∧ cellAt h b 8 = some a8 ∧ cellAt h b 9 = some a9 ∧ cellAt h b 10 = some a10 ∧ cellAt h b 11 = some a11 := by
 have g : ∀ j, j < 12 → cellAt h b j = [a0, a1, a2, a3, a4, a5, a6, a7, a8, a9, a10, a11][j]? := fun j hj => by have := c j hj; rwa [Nat.zero_add] at this
 exact ⟨g 0 (by omega), g 1 (by omega), g 2 (by omega), g 3 (by omega), g 4 (by omega), g 5 (by omega), g 6 (by omega), g 7 (by omega), g 8 (by omega), g 9 (by omega), g 10 (by omega), g 11 (by omega)⟩
theorem CellsAt.m12 {h : H} {b : Nat} {a0 a1 a2 a3 a4 a5 a6 a7 a8 a9 a10 a11 : AV} (c0 : cellAt h b 0 = some a0) (c1 : cellAt h b 1 = some a1) (c2 : cellAt h b 2 = some a2) (c3 : cellAt h b 3 = some a3) (c4 : cellAt h b 4 = some a4) (c5 : cellAt h b 5 = some a5) (c6 : cellAt h b 6 = some a6) (c7 : cellAt h b 7 = some a7) (c8 : cellAt h b 8 = some a8) (c9 : cellAt h b 9 = some a9) (c10 : cellAt h b 10 = some a10) (c11 : cellAt h b 11 = some a11) : CellsAt h b 0 [a0, a1, a2, a3, a4, a5, a6, a7, a8, a9, a10, a11] := fun j hj => by
 rw [Nat.zero_add]
 match j, hj with
 | 0, _ => exact c0
 | 1, _ => exact c1
 | 2, _ => exact c2
 | 3, _ => exact c3
 | 4, _ => exact c4
 | 5, _ => exact c5
 | 6, _ => exact c6
 | 7, _ => exact c7
 | 8, _ => exact c8
 | 9, _ => exact c9
 | 10, _ => exact c10
 | 11, _ => exact c11
 | j + 12, hj => exact absurd hj (by show ¬ j + 12 < 12; omega)
end
end Go.AX

namespace Go.Proofs.Ytnedigoajoflaaa.M
open Go Go.AX
noncomputable section
set_option maxRecDepth 100000
structure Res where
 kvs : List KV
 more : Bool
 cnt : Nat
 del : Nat
 prev : List KV
def Res.cs (r : Res) (k p : AV) : List AV := [k, .bool r.more, .int .i64 (.ofNat r.cnt), .int .i64 (.ofNat r.del), p]
def lim (op : Op) (n : Nat) : Nat := if Int.ofNat 0 < op.limit ∧ op.limit < Int.ofNat n then op.limit.toNat else n
def moreB (op : Op) (n : Nat) : Bool := decide (Int.ofNat 0 < op.limit) && decide (op.limit < Int.ofNat n)
def strip (op : Op) (x : KV) : KV := if op.keys then { x with val := [] } else x
def resS (op : Op) (all : List KV) : Res :=
 if op.count then ⟨[], false, all.length, 0, []⟩ else ⟨(all.take (lim op all.length)).map (strip op), moreB op all.length, all.length, 0, []⟩
theorem opNew (h : H) (x : Op) : ∃ h1, h.newCells 80 x.cs = h1 ∧ Og h h1 [] ∧ h1.nx = h.nx + 1 ∧
  cellAt h1 h.nx 0 = some (.int .i64 x.kind) ∧ cellAt h1 h.nx 1 = some (.str x.key) ∧ cellAt h1 h.nx 2 = some (.str x.fin) ∧ cellAt h1 h.nx 3 = some (.str x.val) ∧ cellAt h1 h.nx 4 = some (.int .u64 (.ofNat x.rev)) ∧ cellAt h1 h.nx 5 = some (.int .i64 x.limit) ∧ cellAt h1 h.nx 6 = some (.bool x.count) ∧ cellAt h1 h.nx 7 = some (.bool x.keys) ∧ cellAt h1 h.nx 8 = some (.bool x.prev) := by
 refine ⟨_, rfl, (Og.refl _ _).new _ _, rfl, ?_⟩
 have c : ∀ j, cellAt (h.newCells 80 x.cs) h.nx j = x.cs[j]? := fun j => by rw [cellAt_new, if_pos rfl]
 exact ⟨c 0, c 1, c 2, c 3, c 4, c 5, c 6, c 7, c 8⟩
theorem resNew (h : H) : ∃ h1, h.newCells 72 [.nilslice, .bool false, .int .i64 (.ofNat 0), .int .i64 (.ofNat 0), .nilslice] = h1 ∧ Og h h1 [] ∧ h1.nx = h.nx + 1 ∧ wrAt h1 h.nx = true ∧
  cellAt h1 h.nx 0 = some .nilslice ∧ cellAt h1 h.nx 1 = some (.bool false) ∧ cellAt h1 h.nx 2 = some (.int .i64 (.ofNat 0)) ∧ cellAt h1 h.nx 3 = some (.int .i64 (.ofNat 0)) ∧ cellAt h1 h.nx 4 = some .nilslice := by
 refine ⟨_, rfl, (Og.refl _ _).new _ _, rfl, by rw [wrAt_new, if_pos rfl], ?_⟩
 refine ⟨?_, ?_, ?_, ?_, ?_⟩ <;> rw [cellAt_new, if_pos rfl] <;> rfl
theorem resBox (h : H) (n : Nat) : ∃ h1, (h.newCells 72 [.nilslice, .bool false, .int .i64 (.ofNat 0), .int .i64 (.ofNat 0), .nilslice]).sts h.nx 0 [.nilslice, .bool false, .int .i64 (.ofNat n), .int .i64 (.ofNat 0), .nilslice] = h1 ∧ Og h h1 [] ∧ h1.nx = h.nx + 1 ∧ wrAt h1 h.nx = true ∧
  cellAt h1 h.nx 0 = some .nilslice ∧ cellAt h1 h.nx 1 = some (.bool false) ∧ cellAt h1 h.nx 2 = some (.int .i64 (.ofNat n)) ∧ cellAt h1 h.nx 3 = some (.int .i64 (.ofNat 0)) ∧ cellAt h1 h.nx 4 = some .nilslice := by
 refine ⟨_, rfl, ((Og.refl _ _).new _ _).sts (.inr (Nat.le_refl _)), by rw [nx_sts, nx_new], by rw [wrAt_sts, wrAt_new, if_pos rfl], ?_⟩
 refine ⟨?_, ?_, ?_, ?_, ?_⟩ <;> rw [cellAt_sts (by rw [wrAt_new, if_pos rfl]), if_pos ⟨rfl, Nat.zero_le _, by simp⟩] <;> rfl
theorem Grows.head {h : H} {b0 n m : Nat} {v : AV} {l : List KV} (g : Grows 5 b0 h v n (l.flatMap KV.cs)) (hn : n = l.length) (hm : m ≤ n) : ∃ v2, sliceA P 44 v none (some (.int .i64 (.ofNat m))) none = some v2 ∧ v2.one = true ∧ SliceAt h v2 m ((l.take m).flatMap KV.cs) ∧ (∀ c, blkOf v2 = some c → blkOf v = some c) := by
 rw [flat_take KV.len]
 have hcl : (l.flatMap KV.cs).length = n * 5:= by rw [flat_len KV.len, hn]
 generalize l.flatMap KV.cs = cs0 at g hcl ⊢
 clear hn
 cases g with
 | none =>
  obtain rfl : m = 0:= by omega
  refine ⟨.nilslice, by kernel_rfl, rfl, ?_, fun c h => by cases h⟩
  rw [show (List.take (0 * 5) ([] : List AV)) = [] by simp]
  exact .none
 | cell b n cs t ty h1 h2 h3 h4 h5 =>
  refine ⟨.slice b 0 m (.opn 0), ?_, rfl, ?_, fun c h => h⟩
  ·simp only [sliceA, u44a, show okT P 55 = true from by kernel_rfl, sliceOp, bndO, bnd, ble_t hm, Nat.beq_refl]
  ·refine .cell b 0 m _ _ h2 (fun j hj => ?_)
   rw [List.length_take] at hj
   unfold cellAt
   rw [h4, Nat.zero_add, List.getElem?_take, if_pos (by omega)]
   exact h5 j
structure RzH (h0 : H) (op : Op) (v2 : AV) (l : List KV) (r : Res) (b2 b4 b5 : Nat) (h : H) (i : Nat) (w : AV) : Prop where
 k2 : cellAt h b2 7 = some (.bool op.keys)
 a : CellsAt h b4 0 [.nilslice, .bool false, .int .i64 (.ofNat 0), .int .i64 (.ofNat 0), .nilslice]
 c : CellsAt h b5 0 (r.cs w .nilslice)
 w4 : wrAt h b4 = true
 w5 : wrAt h b5 = true
 gr : Grows 5 (b5 + 1) h w i (((l.take i).map (strip op)).flatMap KV.cs)
 oo : Og h0 h []
 xx : b5 < h.nx
 s2 : SliceAt h v2 l.length (l.flatMap KV.cs)
structure RzI (h0 : H) (op : Op) (v2 : AV) (l : List KV) (r : Res) (b2 b4 b5 : Nat) (m : Nat) (ds : List Nat) (tm : T AV) (h : H) (i : Nat) (w : AV) : Prop where
 ds : ds = []
 nn : m = l.length - i
 ii : i ≤ l.length
 t2 : tm.get 2 = some (.ptr b2 0)
 t4 : tm.get 4 = some (.ptr b4 0)
 t5 : tm.get 5 = some (.ptr b5 0)
 t29 : tm.get 29 = some v2
 t30 : tm.get 30 = some (.int .i64 (.ofNat l.length))
 t31 : tm.get 31 = some (.int .i64 (.ofNat i))
 hh : RzH h0 op v2 l r b2 b4 b5 h i w
theorem gC {h h' : H} {b o : Nat} {cs : List AV} {S : List Nat} (c : CellsAt h b o cs) (g : Og h h' S) (hb : b < h.nx) (hn : b ∉ S) : CellsAt h' b o cs := c.only g.1 hb hn
theorem strip_s {op : Op} {l : List KV} {i : Nat} {x : KV} (h : l[i]? = some x) : (l.take (i + 1)).map (strip op) = (l.take i).map (strip op) ++ [strip op x] := by
 rw [List.take_add_one, h, List.map_append]; rfl
structure ApH (h : H) (b5 : Nat) (w : AV) (i : Nat) (cs : List AV) (r : Res) (h4 : H) (w4 : AV) (new : List AV) : Prop where
 c : CellsAt h4 b5 0 (r.cs w4 .nilslice)
 w5 : wrAt h4 b5 = true
 gr : Grows 5 (b5 + 1) h4 w4 (i + 1) (cs ++ new)
 nx : h.nx ≤ h4.nx
 kk : ∀ c, c < h.nx → c < b5 → h4.t.get c = h.t.get c
 g : h4.g = h.g
theorem app53 (h : H) (b5 b7 : Nat) (x : KV) (r : Res) (w : AV) (i : Nat) (cs : List AV) (hi : i ≤ 1000000) (C : CellsAt h b5 0 (r.cs w .nilslice)) (W : wrAt h b5 = true) (gr : Grows 5 (b5 + 1) h w i cs) (X : CellsAt h b7 0 x.cs) (hb5 : b5 < h.nx) (hb7 : b7 < h.nx) (tm : T AV) (u5 : tm.get 5 = some (.ptr b5 0)) (u7 : tm.get 7 = some (.ptr b7 0)) (K : KQ)
  (hK : ∀ tm2 h4 w4, (∀ j, j < 38 → tm2.get j = tm.get j) → ApH h b5 w i cs r h4 w4 x.cs → K .norm [] tm2 h4) : codeW P 53 46 none (codeI (bodyC Try.f53) [1, 1, 0, 0, 1, 1, 0, 0, 1, 0, 1, 1, 1, 1]) [] tm h K := by
 obtain ⟨C0, C1, C2, C3, C4⟩ := C.u5
 obtain ⟨z0, z1, z2, z3, z4⟩ := X.u5
 have gro := gr.one
 obtain ⟨h4, h4e⟩ : ∃ h4, h4 = h.newCells 55 [.str x.key, .str x.val, .int .u64 (.ofNat x.cre), .int .u64 (.ofNat x.mod), .int .u64 (.ofNat x.ver)] := ⟨_, rfl⟩
 have o4 : Og h h4 []:= by rw [h4e]; exact (Og.refl _ _).new _ _
 have x4 : h4.nx = h.nx + 1:= by rw [h4e]; rfl
 have gr4 : Grows 5 (b5 + 1) h4 w _ _ := gr.of_get o4.1.1 (fun d e => o4.1.2 d (gr.base e).2 (by simp))
 have hrow : h4.row h.nx 0 5 = some x.cs := row_ok (o := 0) (cs := x.cs) (fun j hj => by rw [h4e, cellAt_new, Nat.zero_add, if_pos rfl]; rfl) (by simp [KV.cs])
 refine rN ?_ (V u5<|V u7<|V C0<|V gro<|V z0<|V z1<|V z2<|V z3<|V z4<|V h4e.symm<|hrow)
 refine exW_growsG (m := 1) (new := x.cs) gr4 (by omega) (by omega) (by omega) rfl (by omega) (fun v7 h7 g7 x7 old7 bl7 gg7 => ?_)
 have o47 : ∀ c, c < h4.nx → c < b5 + 1 → h7.t.get c = h4.t.get c := fun c hc hc5 => old7 c hc (fun e => by have := (gr4.base e).1; omega)
 have C7 : CellsAt h7 b5 0 (r.cs w .nilslice) := (gC C o4 hb5 (by simp)).of_get (o47 b5 (by omega) (by omega))
 have V5 : wrAt h7 b5 = true:= by rw [wrAt_of_get (o47 b5 (by omega) (by omega))]; exact kw W o4 hb5 (by simp)
 obtain ⟨D0, -⟩ := C7.u5
 have g7o := g7.one
 have g7c := g7.cells
 refine rN ?_ (V u5<|V g7o<|V g7c<|V D0<|V5)
 refine hK _ _ v7 ?_ ⟨C7.put V5 (j := 0) (by simp [Res.cs]) v7, by rw [wrAt_sts]; exact V5, g7.of_get (by rw [nx_sts]; exact Nat.le_refl _) (fun d e => get_sts _ _ _ _ (by have := (g7.base e).1; omega)), by rw [nx_sts]; omega, fun c hc hc5 => ?_, by rw [g_sts, gg7, o4.2]⟩
 ·intro j hj
  repeat (rw [T.get_set, if_neg (by omega)])
 ·rw [get_sts _ _ _ _ (by omega), o47 c (by omega) (by omega), o4.1.2 c hc (by simp)]
theorem resTail (h0 h : H) (op : Op) (v2 : AV) (l : List KV) (r : Res) (b2 b4 b5 : Nat) (hz : l.length ≤ 1000000) (tm : T AV) (t1 : tm.get 1 = some v2) (t2 : tm.get 2 = some (.ptr b2 0)) (t4 : tm.get 4 = some (.ptr b4 0)) (t5 : tm.get 5 = some (.ptr b5 0)) (nb : ∀ c, blkOf v2 = some c → c < b4) (v2o : v2.one = true)
  (hh : RzH h0 op v2 l r b2 b4 b5 h 0 .nilslice) (n1 : b2 < b4) (n2 : b4 < b5) (n0 : h0.nx ≤ b2)
  (Q : AV → H → Prop) (hQ : ∀ w h', Og h0 h' [] → Grows 5 h0.nx h' w l.length ((l.map (strip op)).flatMap KV.cs) → Q (.agg (r.cs w .nilslice)) h') : codeW P 53 46 none (codeI (bodyC Try.f53) [1, 1, 1, 1]) [] tm h (retK P Try.f53 Q) := by
 have hlen := hh.s2.len (P := P) u44a
 refine rN ?_ (V t1<|V t2<|V t4<|V t5<|V hlen<|v2o)
 refine st_loop (fun m ds tm h => ∃ i w, RzI h0 op v2 l r b2 b4 b5 m ds tm h i w) l.length rfl ⟨0, .nilslice, rfl, rfl, Nat.zero_le _, by exact sT, by exact sT, by exact sT, by exact sT, by exact sT, by exact sT, hh⟩ (fun m ds tm h1 hI => ?_)
 clear t1 t2 t4 t5 hh
 obtain ⟨i, w, rfl, rfl, ii, t2, t4, t5, t29, t30, t31, hh⟩ := hI
 have lo := hh.oo.1.1
 have gro := hh.gr.one
 have xx := hh.xx
 by_cases hi : i < l.length
 ·have di : decide (i < l.length) = true := decide_eq_true hi
  have lt1 : (i < l.length) = True:= by simp [hi]
  obtain ⟨x, hx⟩ : ∃ x, l[i]? = some x := ⟨_, List.getElem?_eq_getElem hi⟩
  have s2 := hh.s2
  obtain ⟨bv, ov, cv, rfl, hbv, -⟩ := s2.place (by omega)
  have hbv4 := nb bv rfl
  obtain ⟨q0, q1, q2, q3, q4⟩ := KV.at s2 hx
  obtain ⟨h2, h2e, o2, x2, y0, y1, y2, y3, y4, wy⟩ := kvBox h1 x
  have w1 : wrapF .i64 (Int.ofNat i + Int.ofNat 1) = Int.ofNat (i + 1) := i64_add (by omega)
  have k2' := kc hh.k2 o2 (by omega) (by simp)
  have fin : ∀ (tm2 : T AV) (h3 h4 : H) (w4 : AV), Og h1 h3 [] → ApH h3 b5 w i (((l.take i).map (strip op)).flatMap KV.cs) r h4 w4 (strip op x).cs → tm2.get 2 = some (.ptr b2 0) → tm2.get 4 = some (.ptr b4 0) → tm2.get 5 = some (.ptr b5 0) → tm2.get 29 = some (.slice bv ov l.length cv) → tm2.get 30 = some (.int .i64 (.ofNat l.length)) → tm2.get 31 = some (.int .i64 (.ofNat (i + 1))) →
    ∃ m, m < l.length - i ∧ ∃ i w, RzI h0 op (.slice bv ov l.length cv) l r b2 b4 b5 m [] tm2 h4 i w := fun tm2 h3 h4 w4 o3 a u2 u4 u5 u29 u30 u31 => by
   have e3 := o3.1.1
   have e4 := a.nx
   have kk : ∀ c, c < h1.nx → c < b5 → h4.t.get c = h1.t.get c := fun c hc hc5 => (a.kk c (by omega) hc5).trans (o3.1.2 c hc (by simp))
   exact ⟨l.length - (i + 1), by omega, i + 1, w4, rfl, rfl, by omega, u2, u4, u5, u29, u30, u31, ⟨by rw [cellAt_of_get (kk b2 (by omega) (by omega))]; exact hh.k2, hh.a.of_get (kk b4 (by omega) (by omega)), a.c, by rw [wrAt_of_get (kk b4 (by omega) (by omega))]; exact hh.w4, a.w5, by rw [strip_s hx, List.flatMap_append, List.flatMap_singleton]; exact a.gr, ⟨⟨by omega, fun c hc _ => by rw [kk c (by omega) (by omega)]; exact hh.oo.1.2 c hc (by simp)⟩, a.g.trans (o3.2.trans hh.oo.2)⟩, by omega, hh.s2.move (by omega) (fun b e => by cases e; exact kk bv (by omega) (by omega))⟩⟩
  cases qk : op.keys with
  | false =>
   rw [qk] at k2'
   have es : strip op x = x:= by unfold strip; rw [qk]; rfl
   rw [es] at fin
   repeat' (first | (with_reducible refine stopC [1, 1, 0, 0, 1, 1, 0, 0, 1, 0, 1, 1, 1, 1] ?_) | ((with_reducible refine st1 ?_); (conv => whnf); (with_reducible refine ⟨?_⟩)) | ((with_reducible refine retW_intro rfl ?_); (conv => arg 2; whnf)) | ((with_reducible first | refine iB ?_ ?_ | refine gWt ?_ ?_ | refine gWf ?_ ?_) <;> intro hb <;> (try simp only [hb])) | (simp only [B, F, reduceLT, reduceLeDiff, reduceEqDiff, reduceAdd, reduceMul, reduceSub, ↓reduceIte, eq_self, t2, t4, t5, t29, t30, t31, di, lt1, q0, q1, q2, q3, q4, h2e, k2']))
   refine ⟨?_⟩
   refine app53 h2 b5 h1.nx x r w i _ (by omega) (gC hh.c o2 xx (by simp)) (kw hh.w5 o2 xx (by simp)) (hh.gr.of_get o2.1.1 (fun d e => o2.1.2 d (hh.gr.base e).2 (by simp))) (.m5 y0 y1 y2 y3 y4) (by omega) (by omega) _ (by exact sT) (by exact sT) _ ?_
   intro tm2 h4 w4 htm a
   have u2 : tm2.get 2 = some (.ptr b2 0) := (htm 2 (by omega)).trans (by exact sT)
   have u4 : tm2.get 4 = some (.ptr b4 0) := (htm 4 (by omega)).trans (by exact sT)
   have u5 : tm2.get 5 = some (.ptr b5 0) := (htm 5 (by omega)).trans (by exact sT)
   have u29 : tm2.get 29 = some (.slice bv ov l.length cv) := (htm 29 (by omega)).trans (by exact sT)
   have u30 : tm2.get 30 = some (.int .i64 (.ofNat l.length)) := (htm 30 (by omega)).trans (by exact sT)
   have u31 : tm2.get 31 = some (.int .i64 (.ofNat i)) := (htm 31 (by omega)).trans (by exact sT)
   refine rN ?_ (V u31<|w1)
   exact fin _ h2 h4 w4 o2 a (by simp only [B, F, reduceLT, reduceLeDiff, reduceEqDiff, reduceAdd, reduceMul, reduceSub, ↓reduceIte, eq_self, u2]) (by simp only [B, F, reduceLT, reduceLeDiff, reduceEqDiff, reduceAdd, reduceMul, reduceSub, ↓reduceIte, eq_self, u4]) (by simp only [B, F, reduceLT, reduceLeDiff, reduceEqDiff, reduceAdd, reduceMul, reduceSub, ↓reduceIte, eq_self, u5]) (by simp only [B, F, reduceLT, reduceLeDiff, reduceEqDiff, reduceAdd, reduceMul, reduceSub, ↓reduceIte, eq_self, u29]) (by simp only [B, F, reduceLT, reduceLeDiff, reduceEqDiff, reduceAdd, reduceMul, reduceSub, ↓reduceIte, eq_self, u30]) (by exact sT)
  | true =>
   rw [qk] at k2'
   obtain ⟨h3, h3e⟩ : ∃ h3, h3 = h2.sts h1.nx 1 [.str []] := ⟨_, rfl⟩
   have o3 : Og h1 h3 []:= by rw [h3e]; exact o2.sts (.inr (Nat.le_refl _))
   have x3 : h3.nx = h2.nx:= by rw [h3e, nx_sts]
   have es : strip op x = ⟨x.key, [], x.cre, x.mod, x.ver⟩:= by unfold strip; rw [qk]; rfl
   have X3 : CellsAt h3 h1.nx 0 (strip op x).cs:= by rw [h3e, es]; exact (CellsAt.m5 y0 y1 y2 y3 y4).put wy (j := 1) (by simp) (.str [])
   repeat' (first | (with_reducible refine stopC [1, 1, 0, 0, 1, 1, 0, 0, 1, 0, 1, 1, 1, 1] ?_) | ((with_reducible refine st1 ?_); (conv => whnf); (with_reducible refine ⟨?_⟩)) | ((with_reducible refine retW_intro rfl ?_); (conv => arg 2; whnf)) | ((with_reducible first | refine iB ?_ ?_ | refine gWt ?_ ?_ | refine gWf ?_ ?_) <;> intro hb <;> (try simp only [hb])) | (simp only [B, F, reduceLT, reduceLeDiff, reduceEqDiff, reduceAdd, reduceMul, reduceSub, ↓reduceIte, eq_self, ez, t2, t4, t5, t29, t30, t31, di, lt1, q0, q1, q2, q3, q4, h2e, k2', y1, wy, ← h3e]))
   refine ⟨?_⟩
   refine app53 h3 b5 h1.nx (strip op x) r w i _ (by omega) (gC hh.c o3 xx (by simp)) (kw hh.w5 o3 xx (by simp)) (hh.gr.of_get o3.1.1 (fun d e => o3.1.2 d (hh.gr.base e).2 (by simp))) X3 (by omega) (by omega) _ (by exact sT) (by exact sT) _ ?_
   intro tm2 h4 w4 htm a
   have u2 : tm2.get 2 = some (.ptr b2 0) := (htm 2 (by omega)).trans (by exact sT)
   have u4 : tm2.get 4 = some (.ptr b4 0) := (htm 4 (by omega)).trans (by exact sT)
   have u5 : tm2.get 5 = some (.ptr b5 0) := (htm 5 (by omega)).trans (by exact sT)
   have u29 : tm2.get 29 = some (.slice bv ov l.length cv) := (htm 29 (by omega)).trans (by exact sT)
   have u30 : tm2.get 30 = some (.int .i64 (.ofNat l.length)) := (htm 30 (by omega)).trans (by exact sT)
   have u31 : tm2.get 31 = some (.int .i64 (.ofNat i)) := (htm 31 (by omega)).trans (by exact sT)
   refine rN ?_ (V u31<|w1)
   exact fin _ h3 h4 w4 o3 a (by simp only [B, F, reduceLT, reduceLeDiff, reduceEqDiff, reduceAdd, reduceMul, reduceSub, ↓reduceIte, eq_self, u2]) (by simp only [B, F, reduceLT, reduceLeDiff, reduceEqDiff, reduceAdd, reduceMul, reduceSub, ↓reduceIte, eq_self, u4]) (by simp only [B, F, reduceLT, reduceLeDiff, reduceEqDiff, reduceAdd, reduceMul, reduceSub, ↓reduceIte, eq_self, u5]) (by simp only [B, F, reduceLT, reduceLeDiff, reduceEqDiff, reduceAdd, reduceMul, reduceSub, ↓reduceIte, eq_self, u29]) (by simp only [B, F, reduceLT, reduceLeDiff, reduceEqDiff, reduceAdd, reduceMul, reduceSub, ↓reduceIte, eq_self, u30]) (by exact sT)
 ·have di : decide (i < l.length) = false := decide_eq_false hi
  obtain rfl : i = l.length:= by omega
  have gr := hh.gr
  rw [List.take_length] at gr
  obtain ⟨a0, a1, a2, a3, a4⟩ := hh.a.u5
  obtain ⟨c0, c1, c2, c3, c4⟩ := hh.c.u5
  have w4 := hh.w4
  refine rN ?_ (V t2<|V t4<|V t5<|V t29<|V t30<|V t31<|V di<|V c0<|V c1<|V c2<|V c3<|V c4<|V a0<|V a1<|V a2<|V a3<|V a4<|V w4<|gro)
  exact hQ w _ (hh.oo.sts (.inr (by omega))) ((gr.of_get (by rw [nx_sts]; exact Nat.le_refl _) (fun d e => get_sts _ _ _ _ (by have := (gr.base e).1; omega))).wk (by omega))
set_option maxHeartbeats 4000000 in
theorem resC (h0 : H) (op : Op) (va : AV) (l : List KV) (b0 : Nat) (g : Grows 5 b0 h0 va l.length (l.flatMap KV.cs)) (hz : l.length ≤ 1000000) :
  PushC P (.enter 53 [.agg op.cs, va] h0) fun v h' => Og h0 h' [] ∧ ∃ w, v = .agg ((resS op l).cs w .nilslice) ∧ Grows 5 h0.nx h' w (resS op l).kvs.length ((resS op l).kvs.flatMap KV.cs) := by
 have hlen := g.slice.len (P := P) u44a
 have hone := g.one
 obtain ⟨h1, h1e, o1, x1, y0, y1, y2, y3, y4, y5, y6, y7, y8⟩ := opNew h0 op
 obtain ⟨h2, h2e, o2, x2, w4, a0, a1, a2, a3, a4⟩ := resNew h1
 obtain ⟨h3, h3e, o3, x3, w5, c0, c1, c2, c3, c4⟩ := resBox h2 l.length
 have o23 := o2.t o3
 have o13 := o1.t o23
 have bx := bxO h0 op
 rw [h1e] at bx
 have y5' := kc y5 o23 (by omega) (by simp)
 have y6' := kc y6 o23 (by omega) (by simp)
 have y7' := kc y7 o23 (by omega) (by simp)
 have A' := gC (CellsAt.m5 a0 a1 a2 a3 a4) o3 (by omega) (by simp)
 obtain ⟨a0', a1', a2', a3', a4'⟩ := A'.u5
 have w4' := kw w4 o3 (by omega) (by simp)
 cases qc : op.count with
 | true =>
  rw [qc] at y6'
  have e : resS op l = ⟨[], false, l.length, 0, []⟩:= by unfold resS; rw [qc]; rfl
  rw [e]
  refine pushC_of_codeW (fn := Try.f53) (c := bodyC Try.f53) Try.func53 rfl ?_
  show codeW P 53 46 none _ _ _ _ _
  refine codeW_root ?_
  refine rN ?_ (V bx<|V h2e<|V hlen<|V h3e<|V y6'<|V c0<|V c1<|V c2<|V c3<|V c4<|V a0'<|V a1'<|V a2'<|V a3'<|V a4'<|w4')
  exact ⟨o13.sts (.inr (by omega)), .nilslice, rfl, .none⟩
 | false =>
  rw [qc] at y6'
  have hb : ∀ c, blkOf va = some c → c < h0.nx := fun c e => (g.base e).2
  have g3 : Grows 5 b0 h3 va _ _ := g.of_get o13.1.1 (fun d e => o13.1.2 d (hb d e) (by simp))
  by_cases q1 : Int.ofNat 0 < op.limit ∧ op.limit < Int.ofNat l.length
  ·obtain ⟨m, hm⟩ : ∃ m : Nat, op.limit = Int.ofNat m := Int.eq_ofNat_of_zero_le (Int.le_of_lt q1.1)
   have m1 : 0 < m:= by have := q1.1; rw [hm] at this; exact Int.ofNat_lt.1 this
   have m2 : m < l.length:= by have := q1.2; rw [hm] at this; exact Int.ofNat_lt.1 this
   have d1 : decide (0 < m) = true := decide_eq_true m1
   have d2 : decide (m < l.length) = true := decide_eq_true m2
   rw [hm] at y5'
   have e : resS op l = ⟨(l.take m).map (strip op), true, l.length, 0, []⟩ := by
    unfold resS lim moreB; rw [qc, if_pos q1, decide_eq_true q1.1, decide_eq_true q1.2, hm]; rfl
   obtain ⟨v2, hsl, v2o, s2, hv2⟩ := Grows.head g3 rfl (Nat.le_of_lt m2)
   have htl : (l.take m).length = m:= by rw [List.length_take]; omega
   rw [e]
   refine pushC_of_codeW (fn := Try.f53) (c := bodyC Try.f53) Try.func53 rfl ?_
   show codeW P 53 46 none _ _ _ _ _
   refine codeW_root ?_
   repeat' (first | (with_reducible refine stopC [1, 1, 1, 1] ?_) | ((with_reducible refine st1 ?_); (conv => whnf); (with_reducible refine ⟨?_⟩)) | ((with_reducible refine retW_intro rfl ?_); (conv => arg 2; whnf)) | ((with_reducible first | refine iB ?_ ?_ | refine gWt ?_ ?_ | refine gWf ?_ ?_) <;> intro hb <;> (try simp only [hb])) | (simp only [B, F, reduceLT, reduceLeDiff, reduceEqDiff, reduceAdd, reduceMul, reduceSub, ↓reduceIte, eq_self, bx, h2e, hlen, h3e, y5', y6', hone, d1, d2, ex_sl_h, hsl, v2o, w5, c0, c1]))
   refine ⟨?_⟩
   obtain ⟨h4, h4e⟩ : ∃ h4, h4 = h3.sts h2.nx 1 [.bool true] := ⟨_, rfl⟩
   have o4 : Og h3 h4 [h2.nx]:= by rw [h4e]; exact (Og.refl _ _).sts (.inl (by simp))
   have x4 : h4.nx = h3.nx:= by rw [h4e, nx_sts]
   have C4 : CellsAt h4 h2.nx 0 [.nilslice, .bool true, .int .i64 (.ofNat l.length), .int .i64 (.ofNat 0), .nilslice]:= by rw [h4e]; exact (CellsAt.m5 c0 c1 c2 c3 c4).put w5 (j := 1) (by simp) (.bool true)
   rw [← h4e]
   refine resTail h0 h4 op v2 (l.take m) ⟨[], true, l.length, 0, []⟩ h0.nx h1.nx h2.nx (by omega) _ (by exact sT) (by exact sT) (by exact sT) (by exact sT) (fun c e => by have := hb c (hv2 c e); omega) v2o ⟨kc y7' o4 (by omega) (by simp; omega), gC A' o4 (by omega) (by simp; omega), C4, kw w4' o4 (by omega) (by simp; omega), by rw [h4e, wrAt_sts]; exact w5, .none, by rw [h4e]; exact o13.sts (.inr (by omega)), by omega, by rw [htl]; exact s2.move (by omega) (fun b e => o4.1.2 b (by have := hb b (hv2 b e); omega) (by simp; have := hb b (hv2 b e); omega))⟩ (by omega) (by omega) (by omega) _ ?_
   intro w h' o' g'
   refine ⟨o', w, rfl, ?_⟩
   rw [List.length_map]; exact g'
  ·have hl : lim op l.length = l.length:= by unfold lim; rw [if_neg q1]
   have e : resS op l = ⟨l.map (strip op), false, l.length, 0, []⟩ := by
    unfold resS; rw [qc, hl, List.take_length]
    have : moreB op l.length = false:= by unfold moreB; rw [← Bool.not_eq_true, Bool.and_eq_true, decide_eq_true_iff, decide_eq_true_iff]; exact q1
    rw [this]; rfl
   have hT : ∀ (tm : T AV), tm.get 1 = some va → tm.get 2 = some (.ptr h0.nx 0) → tm.get 4 = some (.ptr h1.nx 0) → tm.get 5 = some (.ptr h2.nx 0) → codeW P 53 46 none (codeI (bodyC Try.f53) [1, 1, 1, 1]) [] tm h3 (retK P Try.f53 fun v h' => Og h0 h' [] ∧ ∃ w, v = .agg ((resS op l).cs w .nilslice) ∧ Grows 5 h0.nx h' w (resS op l).kvs.length ((resS op l).kvs.flatMap KV.cs)) := fun tm t1 t2 t4 t5 => by
    rw [e]
    refine resTail h0 h3 op va l ⟨[], false, l.length, 0, []⟩ h0.nx h1.nx h2.nx hz tm t1 t2 t4 t5 (fun c e => by have := hb c e; omega) hone ⟨y7', A', .m5 c0 c1 c2 c3 c4, w4', w5, .none, o13, by omega, g3.slice⟩ (by omega) (by omega) (by omega) _ ?_
    intro w h' o' g'
    refine ⟨o', w, rfl, ?_⟩
    rw [List.length_map]; exact g'
   by_cases qa : Int.ofNat 0 < op.limit
   ·have d1 : decide (Int.ofNat 0 < op.limit) = true := decide_eq_true qa
    have d2 : decide (op.limit < Int.ofNat l.length) = false := decide_eq_false (fun h => q1 ⟨qa, h⟩)
    refine pushC_of_codeW (fn := Try.f53) (c := bodyC Try.f53) Try.func53 rfl ?_
    show codeW P 53 46 none _ _ _ _ _
    refine codeW_root ?_
    repeat' (first | (with_reducible refine stopC [1, 1, 1, 1] ?_) | ((with_reducible refine st1 ?_); (conv => whnf); (with_reducible refine ⟨?_⟩)) | ((with_reducible refine retW_intro rfl ?_); (conv => arg 2; whnf)) | ((with_reducible first | refine iB ?_ ?_ | refine gWt ?_ ?_ | refine gWf ?_ ?_) <;> intro hb <;> (try simp only [hb])) | (simp only [B, F, reduceLT, reduceLeDiff, reduceEqDiff, reduceAdd, reduceMul, reduceSub, ↓reduceIte, eq_self, bx, h2e, hlen, h3e, y5', y6', hone, d1, d2]))
    refine ⟨?_⟩
    exact hT _ (by exact sT) (by exact sT) (by exact sT) (by exact sT)
   ·have d1 : decide (Int.ofNat 0 < op.limit) = false := decide_eq_false qa
    refine pushC_of_codeW (fn := Try.f53) (c := bodyC Try.f53) Try.func53 rfl ?_
    show codeW P 53 46 none _ _ _ _ _
    refine codeW_root ?_
    repeat' (first | (with_reducible refine stopC [1, 1, 1, 1] ?_) | ((with_reducible refine st1 ?_); (conv => whnf); (with_reducible refine ⟨?_⟩)) | ((with_reducible refine retW_intro rfl ?_); (conv => arg 2; whnf)) | ((with_reducible first | refine iB ?_ ?_ | refine gWt ?_ ?_ | refine gWf ?_ ?_) <;> intro hb <;> (try simp only [hb])) | (simp only [B, F, reduceLT, reduceLeDiff, reduceEqDiff, reduceAdd, reduceMul, reduceSub, ↓reduceIte, eq_self, bx, h2e, hlen, h3e, y5', y6', hone, d1]))
    refine ⟨?_⟩
    exact hT _ (by exact sT) (by exact sT) (by exact sT) (by exact sT)
end
end Go.Proofs.Ytnedigoajoflaaa.M

namespace Go.Proofs.Ytnedigoajoflaaa.M
open Go Go.AX
noncomputable section
set_option maxRecDepth 100000
end
end Go.Proofs.Ytnedigoajoflaaa.M

namespace Go.Proofs.Ytnedigoajoflaaa.M
open Go Go.AX
noncomputable section
set_option maxRecDepth 100000
structure VOk (W : View) : Prop where
 nd : (W.map (·.1)).Nodup
 ky : ∀ p, p ∈ W → p.2.kv.key = p.1 ∧ p.1.length ≤ 1000000
structure DoAt (h : H) (bd bm ro base : Nat) (L0 : List Rec) (v0 : AV) (rev comp : Nat) (R : List Rec) (w : AV) : Prop where
 c0 : cellAt h bd 0 = some (.ptr bm 0)
 c1 : cellAt h bd 1 = some (.map ro)
 c2 : cellAt h bd 2 = some w
 wr : wrAt h bd = true
 md : MdAt h bm L0 rev comp v0
 mp : MapK encS h ro (mR (atV (rev + 1) (L0 ++ R)))
 gr : Grows 8 base h w R.length (R.flatMap Rec.cs)
 l1 : bm < ro
 l2 : ro < bd
 l3 : bd < base
 l4 : base ≤ h.nx
 nv : ∀ c, blkOf v0 = some c → c < ro
structure DoK (h h' : H) (bd ro : Nat) (w w' : AV) : Prop where
 nx : h.nx ≤ h'.nx
 old : ∀ c, c < h.nx → c ≠ bd → c ≠ ro → blkOf w ≠ some c → h'.t.get c = h.t.get c
 nw : ∀ c, blkOf w' = some c → blkOf w = some c ∨ h.nx ≤ c
 g : h'.g = h.g
theorem DoK.t {h h1 h2 : H} {bd ro : Nat} {w w1 w2 : AV} (a : DoK h h1 bd ro w w1) (b : DoK h1 h2 bd ro w1 w2) : DoK h h2 bd ro w w2 :=
  ⟨Nat.le_trans a.nx b.nx, fun c hc h1 h2 h3 => (b.old c (Nat.lt_of_lt_of_le hc a.nx) h1 h2 (fun e => by rcases a.nw c e with q | q; exact h3 q; omega)).trans (a.old c hc h1 h2 h3),
   fun c e => by
    rcases b.nw c e with q | q
    · exact a.nw c q
    · exact .inr (Nat.le_trans a.nx q), b.g.trans a.g⟩
theorem DoK.og {h h' : H} (o : Og h h' []) (bd ro : Nat) (w : AV) : DoK h h' bd ro w w := ⟨o.1.1, fun c hc _ _ _ => o.1.2 c hc (by simp), fun _ e => .inl e, o.2⟩
theorem MdAt.keep {h h' : H} {b rev comp : Nat} {L : List Rec} {v : AV} (m : MdAt h b L rev comp v) (hx : h.nx ≤ h'.nx) (e : h'.t.get b = h.t.get b) (es : ∀ c, blkOf v = some c → h'.t.get c = h.t.get c) : MdAt h' b L rev comp v :=
 ⟨Nat.lt_of_lt_of_le m.lt hx, by rw [cellAt_of_get e]; exact m.c0, by rw [cellAt_of_get e]; exact m.c1, by rw [cellAt_of_get e]; exact m.c2, by rw [wrAt_of_get e]; exact m.wr, m.sl.move hx es⟩
theorem DoAt.keep {h h' : H} {bd bm ro base rev comp : Nat} {L0 R : List Rec} {v0 w : AV} (d : DoAt h bd bm ro base L0 v0 rev comp R w) (o : Og h h' []) : DoAt h' bd bm ro base L0 v0 rev comp R w := by
 have l1 := d.l1
 have l2 := d.l2
 have l3 := d.l3
 have l4 := d.l4
 have k : ∀ c, c < h.nx → h'.t.get c = h.t.get c := fun c hc => o.1.2 c hc (by simp)
 exact ⟨by rw [cellAt_of_get (k bd (by omega))]; exact d.c0, by rw [cellAt_of_get (k bd (by omega))]; exact d.c1, by rw [cellAt_of_get (k bd (by omega))]; exact d.c2, by rw [wrAt_of_get (k bd (by omega))]; exact d.wr, d.md.keep o.1.1 (k bm (by omega)) (fun c e => k c (by have := d.nv c e; omega)), d.mp.keep o.1 (by simp), d.gr.of_get o.1.1 (fun c e => k c (d.gr.base e).2), l1, l2, l3, Nat.le_trans l4 o.1.1, d.nv⟩
theorem u64_id {a : Nat} (hs : a < 18446744073709551616) : wrapF .u64 (Int.ofNat a) = Int.ofNat a := by
 show ((a : Nat) : Int) % 18446744073709551616 = ((a : Nat) : Int)
 omega
def mkR (rev : Nat) (R : List Rec) (kv : KV) (tomb : Bool) : Rec := ⟨rev + 1, R.length, kv, tomb⟩
theorem atV_app (main : Nat) (L : List Rec) (r : Rec) (h : r.main ≤ main) : atV main (L ++ [r]) = layV (atV main L) r := by
 unfold atV
 rw [List.foldl_append]
 show (if r.main ≤ main then _ else _) = _
 rw [if_pos h]
set_option maxHeartbeats 4000000 in
theorem makeC (h0 : H) (bd bm ro base : Nat) (L0 : List Rec) (v0 : AV) (rev comp : Nat) (R : List Rec) (w : AV) (d : DoAt h0 bd bm ro base L0 v0 rev comp R w) (kv : KV) (tomb : Bool) (hr : rev ≤ 1000000) (hz : R.length ≤ 1000000) :
  PushC P (.enter 69 [.ptr bd 0, .agg kv.cs, .bool tomb] h0) fun v h' => v = .tuple [] ∧ ∃ w', DoAt h' bd bm ro base L0 v0 rev comp (R ++ [mkR rev R kv tomb]) w' ∧ DoK h0 h' bd ro w w' := by
 have l1 := d.l1
 have l2 := d.l2
 have l3 := d.l3
 have l4 := d.l4
 have gro := d.gr.one
 have hlen := d.gr.slice.len (P := P) u45a
 obtain ⟨h1, h1e⟩ : ∃ h1, h1 = h0.newCells 55 kv.cs := ⟨_, rfl⟩
 have o1 : Og h0 h1 []:= by rw [h1e]; exact (Og.refl _ _).new _ _
 have x1 : h1.nx = h0.nx + 1:= by rw [h1e]; rfl
 have bx : boxR h0 55 kv.cs = .val (.ptr h0.nx 0) h1:= by rw [h1e]; exact boxR_ok rfl
 obtain ⟨y0, y1, y2, y3, y4⟩ := CellsAt.u5 (show CellsAt h1 h0.nx 0 [.str kv.key, .str kv.val, .int .u64 (.ofNat kv.cre), .int .u64 (.ofNat kv.mod), .int .u64 (.ofNat kv.ver)] by rw [h1e]; exact CellsAt.new h0 55 kv.cs)
 have d1 := d.keep o1
 have c0 := d1.c0
 have c1 := d1.c1
 have c2 := d1.c2
 have m1 := d1.md.c1
 have wr1 : wrapF .u64 (Int.ofNat rev + Int.ofNat 1) = Int.ofNat (rev + 1) := u64_add (by omega)
 have wr2 : wrapF .u64 (Int.ofNat R.length) = Int.ofNat R.length := u64_id (by omega)
 obtain ⟨h2, h2e, o2, x2, z0, z1, z2, z3, z4, z5, z6, z7, -⟩ := recBox h1 (mkR rev R kv tomb)
 unfold mkR at h2e z0 z1 z2 z3 z4 z5 z6 z7
 simp only at h2e z0 z1 z2 z3 z4 z5 z6 z7
 have d2 := d1.keep o2
 have C0 := d2.c0
 have C1 := d2.c1
 have C2 := d2.c2
 have W2 := d2.wr
 obtain ⟨h3, h3e⟩ : ∃ h3, h3 = h2.newCells 94 [.int .u64 (.ofNat (rev + 1)), .int .u64 (.ofNat R.length), .str kv.key, .str kv.val, .int .u64 (.ofNat kv.cre), .int .u64 (.ofNat kv.mod), .int .u64 (.ofNat kv.ver), .bool tomb] := ⟨_, rfl⟩
 have o3 : Og h2 h3 []:= by rw [h3e]; exact (Og.refl _ _).new _ _
 have x3 : h3.nx = h2.nx + 1:= by rw [h3e]; rfl
 have hrow : h3.row h2.nx 0 8 = some (mkR rev R kv tomb).cs := row_ok (o := 0) (cs := (mkR rev R kv tomb).cs) (fun j hj => by rw [h3e, cellAt_new, Nat.zero_add, if_pos rfl]; rfl) (by simp [Rec.cs])
 have d3 := d2.keep o3
 have F2 := d3.c2
 have n1 : (h0.nx = h1.nx) = False:= by simp; omega
 have n2 : (bd = h1.nx) = False:= by simp; omega
 have n3 : (bm = h1.nx) = False:= by simp; omega
 refine pushC_of_codeW (fn := Try.f69) (c := bodyC Try.f69) Try.func69 rfl ?_
 show codeW P 69 41 none _ _ _ _ _
 refine codeW_root ?_
 repeat' (first | ((with_reducible refine st1 ?_); (conv => whnf); (with_reducible refine ⟨?_⟩)) | ((with_reducible refine st_dp ord69_0 ?_ rfl rfl ?_); exact rfl; (conv => arg 4; whnf); (conv => arg 3; whnf)) | ((with_reducible refine st_dw ?_ rfl rfl ?_ ?_); exact rfl; kernel_rfl; (conv => arg 5; whnf); (conv => arg 3; whnf)) | ((with_reducible refine retW_intro rfl ?_); (conv => arg 2; whnf)) | ((with_reducible first | refine iB ?_ ?_ | refine gWt ?_ ?_ | refine gWf ?_ ?_ | refine gXt ?_ ?_ | refine gXf ?_ ?_) <;> intro hb <;> (try simp only [hb])) | ((with_reducible show drawP _ _ _ _ _ _ _ _ _); first | ((with_reducible apply kP_rd); exact rfl; exact rfl) | ((with_reducible apply kP_rg); exact rfl; exact rfl; exact rfl) | ((with_reducible apply kP_cv); exact rfl; exact rfl; kernel_rfl) | ((with_reducible apply kP_al); exact rfl; exact rfl; exact rfl) | ((with_reducible apply kP_fl); exact rfl; exact rfl; exact rfl) | ((with_reducible apply kP_ex); exact rfl; exact rfl; kernel_rfl; exact rfl) | ((with_reducible apply kP_eg); exact rfl; exact rfl; kernel_rfl; exact rfl) | ((with_reducible refine kP_nl ?_ ?_))) | ((with_reducible show drawI _ _ _ _ _ _ _ _ _); first | ((with_reducible refine kI_rd ?_ ?_); exact rfl) | ((with_reducible apply kI_rg); exact rfl; exact rfl) | ((with_reducible refine kI_cv ?_ ?_ ?_); exact rfl; kernel_rfl) | ((with_reducible apply kI_al); exact rfl; exact rfl) | ((with_reducible refine kI_ex ?_ ?_ ?_ ?_ ?_); exact rfl; kernel_rfl; exact rfl) | ((with_reducible apply kI_eg); exact rfl; kernel_rfl; exact rfl) | ((with_reducible refine kI_nl ?_ ?_))) | ((with_reducible show eOk _ _ _ _ _ _); first | (exact eok_nil) | (refine ke_rd ?_ ?_ ?_; exact rfl) | (apply ke_rg; exact rfl; exact rfl) | (refine ke_cv ?_ ?_ ?_ ?_; exact rfl; kernel_rfl) | (apply ke_fl; exact rfl) | (apply ke_al; exact rfl; exact rfl)) | ((with_reducible refine freshIs_new ?_); kernel_rfl) | (simp only [B, xB, F, reduceLT, reduceLeDiff, reduceEqDiff, reduceAdd, reduceMul, reduceSub, ↓reduceIte, eq_self, bx, c0, c1, c2, m1, gro, hlen, y0, y1, y2, y3, y4, wr1, wr2, h2e, C0, C1, C2, z0, z1, z2, z3, z4, z5, z6, z7, ← h3e, hrow, F2, n1, n2, n3]))
 refine exW_growsG (m := 1) (new := (mkR rev R kv tomb).cs) d3.gr (by omega) (by omega) (by omega) rfl (by omega) (fun v7 h7 g7 x7 old7 bl7 gg7 => ?_)
 have g7o := g7.one
 have g7c := g7.cells
 have k7 : ∀ c, c < base → h7.t.get c = h3.t.get c := fun c hc => old7 c (by omega) (fun e => by have := (d3.gr.base e).1; omega)
 have E2 : cellAt h7 bd 2 = some w:= by rw [cellAt_of_get (k7 bd (by omega))]; exact d3.c2
 have W7 : wrAt h7 bd = true:= by rw [wrAt_of_get (k7 bd (by omega))]; exact d3.wr
 obtain ⟨h8, h8e⟩ : ∃ h8, h8 = h7.sts bd 2 [v7] := ⟨_, rfl⟩
 have x8 : h8.nx = h7.nx:= by rw [h8e, nx_sts]
 have k8 : ∀ c, c ≠ bd → h8.t.get c = h7.t.get c := fun c hc => by rw [h8e, get_sts _ _ _ _ hc]
 have S : ∀ j, cellAt h8 bd j = if j = 2 then some v7 else cellAt h7 bd j := fun j => by
  rw [h8e, cellAt_sts W7]
  by_cases e : j = 2
  ·subst e; rw [if_pos ⟨rfl, Nat.le_refl _, by simp⟩, if_pos rfl]; rfl
  ·rw [if_neg (by simp; omega), if_neg e]
 have E1 : cellAt h8 bd 1 = some (.map ro):= by rw [S, if_neg (by omega), cellAt_of_get (k7 bd (by omega))]; exact d3.c1
 have E0 : cellAt h8 bd 0 = some (.ptr bm 0):= by rw [S, if_neg (by omega), cellAt_of_get (k7 bd (by omega))]; exact d3.c0
 have kz : ∀ j, cellAt h8 h1.nx j = cellAt h2 h1.nx j := fun j => by rw [cellAt_of_get (k8 h1.nx (by omega)), cellAt_of_get (old7 h1.nx (by omega) (fun e => by have := (d2.gr.base e).2; have := (d1.gr.base e).2; omega)), cellAt_of_get (o3.1.2 h1.nx (by omega) (by simp))]
 rw [← kz] at z0 z1 z2 z3 z4 z5 z6 z7
 repeat' (first | ((with_reducible refine st1 ?_); (conv => whnf); (with_reducible refine ⟨?_⟩)) | ((with_reducible refine st_dp ord69_0 ?_ rfl rfl ?_); exact rfl; (conv => arg 4; whnf); (conv => arg 3; whnf)) | ((with_reducible refine st_dw ?_ rfl rfl ?_ ?_); exact rfl; kernel_rfl; (conv => arg 5; whnf); (conv => arg 3; whnf)) | ((with_reducible refine retW_intro rfl ?_); (conv => arg 2; whnf)) | ((with_reducible first | refine iB ?_ ?_ | refine gWt ?_ ?_ | refine gWf ?_ ?_ | refine gXt ?_ ?_ | refine gXf ?_ ?_) <;> intro hb <;> (try simp only [hb])) | ((with_reducible show drawP _ _ _ _ _ _ _ _ _); first | ((with_reducible apply kP_rd); exact rfl; exact rfl) | ((with_reducible apply kP_rg); exact rfl; exact rfl; exact rfl) | ((with_reducible apply kP_cv); exact rfl; exact rfl; kernel_rfl) | ((with_reducible apply kP_al); exact rfl; exact rfl; exact rfl) | ((with_reducible apply kP_fl); exact rfl; exact rfl; exact rfl) | ((with_reducible apply kP_ex); exact rfl; exact rfl; kernel_rfl; exact rfl) | ((with_reducible apply kP_eg); exact rfl; exact rfl; kernel_rfl; exact rfl) | ((with_reducible refine kP_nl ?_ ?_))) | ((with_reducible show drawI _ _ _ _ _ _ _ _ _); first | ((with_reducible refine kI_rd ?_ ?_); exact rfl) | ((with_reducible apply kI_rg); exact rfl; exact rfl) | ((with_reducible refine kI_cv ?_ ?_ ?_); exact rfl; kernel_rfl) | ((with_reducible apply kI_al); exact rfl; exact rfl) | ((with_reducible refine kI_ex ?_ ?_ ?_ ?_ ?_); exact rfl; kernel_rfl; exact rfl) | ((with_reducible apply kI_eg); exact rfl; kernel_rfl; exact rfl) | ((with_reducible refine kI_nl ?_ ?_))) | ((with_reducible show eOk _ _ _ _ _ _); first | (exact eok_nil) | (refine ke_rd ?_ ?_ ?_; exact rfl) | (apply ke_rg; exact rfl; exact rfl) | (refine ke_cv ?_ ?_ ?_ ?_; exact rfl; kernel_rfl) | (apply ke_fl; exact rfl) | (apply ke_al; exact rfl; exact rfl)) | ((with_reducible refine freshIs_new ?_); kernel_rfl) | (simp only [B, xB, F, reduceLT, reduceLeDiff, reduceEqDiff, reduceAdd, reduceMul, reduceSub, ↓reduceIte, eq_self, g7o, g7c, E2, W7, ← h8e, E1, z0, z1, z2, z3, z4, z5, z6, z7]))
 have m8 : MapK encS h8 ro (mR (atV (rev + 1) (L0 ++ R))) := d3.mp.get (by omega) (by rw [k8 ro (by omega), k7 ro (by omega)])
 refine ((layC h8 ro (atV (rev + 1) (L0 ++ R)) (mkR rev R kv tomb) m8).call P).mono P ?_
 rintro _ h9 ⟨rfl, m9, o9⟩
 repeat' (first | ((with_reducible refine st1 ?_); (conv => whnf); (with_reducible refine ⟨?_⟩)) | ((with_reducible refine st_dp ord69_0 ?_ rfl rfl ?_); exact rfl; (conv => arg 4; whnf); (conv => arg 3; whnf)) | ((with_reducible refine st_dw ?_ rfl rfl ?_ ?_); exact rfl; kernel_rfl; (conv => arg 5; whnf); (conv => arg 3; whnf)) | ((with_reducible refine retW_intro rfl ?_); (conv => arg 2; whnf)) | ((with_reducible first | refine iB ?_ ?_ | refine gWt ?_ ?_ | refine gWf ?_ ?_ | refine gXt ?_ ?_ | refine gXf ?_ ?_) <;> intro hb <;> (try simp only [hb])) | ((with_reducible show drawP _ _ _ _ _ _ _ _ _); first | ((with_reducible apply kP_rd); exact rfl; exact rfl) | ((with_reducible apply kP_rg); exact rfl; exact rfl; exact rfl) | ((with_reducible apply kP_cv); exact rfl; exact rfl; kernel_rfl) | ((with_reducible apply kP_al); exact rfl; exact rfl; exact rfl) | ((with_reducible apply kP_fl); exact rfl; exact rfl; exact rfl) | ((with_reducible apply kP_ex); exact rfl; exact rfl; kernel_rfl; exact rfl) | ((with_reducible apply kP_eg); exact rfl; exact rfl; kernel_rfl; exact rfl) | ((with_reducible refine kP_nl ?_ ?_))) | ((with_reducible show drawI _ _ _ _ _ _ _ _ _); first | ((with_reducible refine kI_rd ?_ ?_); exact rfl) | ((with_reducible apply kI_rg); exact rfl; exact rfl) | ((with_reducible refine kI_cv ?_ ?_ ?_); exact rfl; kernel_rfl) | ((with_reducible apply kI_al); exact rfl; exact rfl) | ((with_reducible refine kI_ex ?_ ?_ ?_ ?_ ?_); exact rfl; kernel_rfl; exact rfl) | ((with_reducible apply kI_eg); exact rfl; kernel_rfl; exact rfl) | ((with_reducible refine kI_nl ?_ ?_))) | ((with_reducible show eOk _ _ _ _ _ _); first | (exact eok_nil) | (refine ke_rd ?_ ?_ ?_; exact rfl) | (apply ke_rg; exact rfl; exact rfl) | (refine ke_cv ?_ ?_ ?_ ?_; exact rfl; kernel_rfl) | (apply ke_fl; exact rfl) | (apply ke_al; exact rfl; exact rfl)) | ((with_reducible refine freshIs_new ?_); kernel_rfl) | (simp only [B, xB, F, reduceLT, reduceLeDiff, reduceEqDiff, reduceAdd, reduceMul, reduceSub, ↓reduceIte, eq_self]))
 have k9 : ∀ c, c < h8.nx → c ≠ ro → h9.t.get c = h8.t.get c := fun c hc hn => o9.1.2 c hc (by simp [hn])
 have x9 := o9.1.1
 have g8 : Grows 8 base h8 v7 (R.length + 1) (R.flatMap Rec.cs ++ (mkR rev R kv tomb).cs) := g7.of_get (by omega) (fun c e => k8 c (by have := (g7.base e).1; omega))
 have g9 : Grows 8 base h9 v7 (R.length + 1) (R.flatMap Rec.cs ++ (mkR rev R kv tomb).cs) := g8.of_get (by omega) (fun c e => k9 c (g8.base e).2 (by have := (g8.base e).1; omega))
 have kk : ∀ c, c < base → c ≠ bd → c ≠ ro → h9.t.get c = h3.t.get c := fun c hc h1 h2 => by rw [k9 c (by omega) h2, k8 c h1, k7 c hc]
 have ka : L0 ++ (R ++ [mkR rev R kv tomb]) = (L0 ++ R) ++ [mkR rev R kv tomb]:= by rw [List.append_assoc]
 refine ⟨_, rfl, _, rfl, rfl, v7, ⟨by rw [cellAt_of_get (k9 bd (by omega) (by omega))]; exact E0, by rw [cellAt_of_get (k9 bd (by omega) (by omega))]; exact E1, by rw [cellAt_of_get (k9 bd (by omega) (by omega)), S, if_pos rfl], ?_, d3.md.keep (by omega) (kk bm (by omega) (by omega) (by omega)) (fun c e => kk c (by have := d.nv c e; omega) (by have := d.nv c e; omega) (by have := d.nv c e; omega)), ?_, ?_, l1, l2, l3, by omega, d.nv⟩, ⟨by omega, fun c hc h1 h2 h3 => ?_, fun c e => .inr (by rw [bl7] at e; cases e; omega), by rw [o9.2, h8e, g_sts, gg7, o3.2, o2.2, o1.2]⟩⟩
 ·rw [wrAt_of_get (k9 bd (by omega) (by omega)), h8e, wrAt_sts]; exact W7
 ·rw [ka, atV_app (rev + 1) _ (mkR rev R kv tomb) (Nat.le_refl _)]; exact m9
 ·rw [List.length_append, List.flatMap_append, List.flatMap_singleton]; exact g9
 ·rw [k9 c (by omega) h2, k8 c h1, old7 c (by omega) h3, o3.1.2 c (by omega) (by simp), o2.1.2 c (by omega) (by simp), o1.1.2 c hc (by simp)]
end
end Go.Proofs.Ytnedigoajoflaaa.M

namespace Go.Proofs.Ytnedigoajoflaaa.M
open Go Go.AX
noncomputable section
set_option maxRecDepth 100000
theorem putV_mem {k : List Nat} {r : Rec} : ∀ {W : View} {p : List Nat × Rec}, p ∈ putV k r W → p = (k, r) ∨ p ∈ W
 | [], p, h => by unfold putV at h; rw [List.mem_singleton] at h; exact .inl h
 | (a, x) :: W, p, h => by
  unfold putV at h
  split at h
  ·rename_i e
   rcases List.mem_cons.1 h with rfl | h
   ·exact .inl (by rw [e])
   ·exact .inr (by simp [h])
  ·rcases List.mem_cons.1 h with rfl | h
   ·exact .inr (by simp)
   ·rcases putV_mem h with q | q
    ·exact .inl q
    ·exact .inr (by simp [q])
theorem putV_key {k : List Nat} {r : Rec} : ∀ {W : View} {a : List Nat}, a ∈ (putV k r W).map (·.1) → a = k ∨ a ∈ W.map (·.1)
 | W, a, h => by
  obtain ⟨p, hp, e⟩ := List.mem_map.1 h
  rcases putV_mem hp with q | q
  ·exact .inl (by rw [← e, q])
  ·exact .inr (List.mem_map.2 ⟨p, q, e⟩)
theorem putV_nd {k : List Nat} {r : Rec} : ∀ {W : View}, (W.map (·.1)).Nodup → ((putV k r W).map (·.1)).Nodup
 | [], _ => by simp [putV]
 | (a, x) :: W, h => by
  rw [List.map_cons, List.nodup_cons] at h
  unfold putV
  split
  ·rw [List.map_cons, List.nodup_cons]; exact h
  ·rename_i q
   rw [List.map_cons, List.nodup_cons]
   exact ⟨fun hm => by rcases putV_key hm with e | e; exact q e.symm; exact h.1 e, putV_nd h.2⟩
theorem delV_sub {k : List Nat} : ∀ {W : View}, (delV k W).Sublist W
 | [] => List.Sublist.refl _
 | (a, x) :: W => by
  unfold delV
  split
  ·exact List.sublist_cons_self _ _
  ·exact (delV_sub (W := W)).cons_cons _
theorem layV_nd {W : View} {r : Rec} (h : (W.map (·.1)).Nodup) : ((layV W r).map (·.1)).Nodup := by
 unfold layV
 split
 ·exact (delV_sub.map (·.1)).nodup h
 ·exact putV_nd h
theorem layV_mem {W : View} {r : Rec} {p : List Nat × Rec} (h : p ∈ layV W r) : p = (r.kv.key, r) ∨ p ∈ W := by
 unfold layV at h
 split at h
 ·exact .inr (delV_sub.subset h)
 ·exact putV_mem h
theorem putV_len {k : List Nat} {r : Rec} : ∀ {W : View}, (putV k r W).length ≤ W.length + 1
 | [] => by simp [putV]
 | (a, x) :: W => by
  have := putV_len (k := k) (r := r) (W := W)
  unfold putV
  split <;> simp <;> omega
theorem layV_len (W : View) (r : Rec) : (layV W r).length ≤ W.length + 1 := by
 unfold layV
 split
 ·have := (delV_sub (k := r.kv.key) (W := W)).length_le; omega
 ·exact putV_len
def Short (L : List Rec) : Prop := ∀ r, r ∈ L → r.kv.key.length ≤ 1000000
theorem foldV_ok (main : Nat) : ∀ (L : List Rec) (W : View), VOk W → Short L → VOk (L.foldl (fun W r => if r.main ≤ main then layV W r else W) W) ∧ (L.foldl (fun W r => if r.main ≤ main then layV W r else W) W).length ≤ W.length + L.length
 | [], W, h, _ => ⟨h, Nat.le_refl _⟩
 | r :: L, W, h, hs => by
  rw [List.foldl_cons, List.length_cons]
  split
  ·have hv : VOk (layV W r) := ⟨layV_nd h.nd, fun p hp => by
    rcases layV_mem hp with rfl | q
    ·exact ⟨rfl, hs r (by simp)⟩
    ·exact h.ky p q⟩
   have ih := foldV_ok main L (layV W r) hv (fun x hx => hs x (by simp [hx]))
   have := layV_len W r
   exact ⟨ih.1, by omega⟩
  ·have := foldV_ok main L W h (fun x hx => hs x (by simp [hx]))
   exact ⟨this.1, by omega⟩
theorem atV_ok {main : Nat} {L : List Rec} (h : Short L) : VOk (atV main L) := (foldV_ok main L [] ⟨List.nodup_nil, fun p hp => by cases hp⟩ h).1
theorem atV_len {main : Nat} {L : List Rec} (h : Short L) : (atV main L).length ≤ L.length := by
 have := (foldV_ok main L [] ⟨List.nodup_nil, fun p hp => by cases hp⟩ h).2
 rw [List.length_nil, Nat.zero_add] at this
 exact this
theorem inV_len (W : View) (key fin : List Nat) : (inV W key fin).length ≤ W.length := by
 have := inK_len W key fin (sortS (W.map (·.1)))
 rw [(sortS_perm _).length_eq, List.length_map] at this
 exact this
def rangeV (rev : Nat) (L0 R : List Rec) (op : Op) : View := if 0 < op.rev then atV op.rev L0 else atV (rev + 1) (L0 ++ R)
structure OpPost (h0 h' : H) (bd bm ro base : Nat) (L0 : List Rec) (v0 : AV) (rev comp : Nat) (w : AV) (R' : List Rec) (r : Res) (v w' k p : AV) : Prop where
 v : v = .agg (r.cs k p)
 ks : SliceAt h' k r.kvs.length (r.kvs.flatMap KV.cs)
 ps : SliceAt h' p r.prev.length (r.prev.flatMap KV.cs)
 kb : ∀ c, blkOf k = some c → h0.nx ≤ c ∧ blkOf w' ≠ some c
 pb : ∀ c, blkOf p = some c → h0.nx ≤ c ∧ blkOf w' ≠ some c
 ko : k.one = true
 po : p.one = true
 d : DoAt h' bd bm ro base L0 v0 rev comp R' w'
 dk : DoK h0 h' bd ro w w'
set_option maxHeartbeats 4000000 in
theorem rangeOfC (h0 : H) (bd bm ro base : Nat) (L0 : List Rec) (v0 : AV) (rev comp : Nat) (R : List Rec) (w : AV) (d : DoAt h0 bd bm ro base L0 v0 rev comp R w) (op : Op) (hs : Short L0) (hsR : Short R) (hz : L0.length ≤ 500000) (hzR : R.length ≤ 500000) :
  PushC P (.enter 41 [.ptr bd 0, .agg op.cs] h0) fun v h' => ∃ k, OpPost h0 h' bd bm ro base L0 v0 rev comp w R (resS op (inV (rangeV rev L0 R op) op.key op.fin)) v w k .nilslice := by
 have l1 := d.l1
 have l2 := d.l2
 have l3 := d.l3
 have l4 := d.l4
 obtain ⟨h1, h1e, o1, x1, y0, y1, y2, y3, y4, y5, y6, y7, y8⟩ := opNew h0 op
 obtain ⟨h2, h2e, o2, x2, w4, a0, a1, a2, a3, a4⟩ := resNew h1
 have o12 := o1.t o2
 have bx := bxO h0 op
 rw [h1e] at bx
 have Y := gC (show CellsAt h1 h0.nx 0 op.cs from .m9 y0 y1 y2 y3 y4 y5 y6 y7 y8) o2 (by omega) (by simp)
 obtain ⟨Y0, Y1, Y2, Y3, Y4, Y5, Y6, Y7, Y8⟩ := Y.u9
 have A := CellsAt.m5 a0 a1 a2 a3 a4
 have d2 := d.keep o12
 have c0 := d2.c0
 have c1 := d2.c1
 have hso : Short (L0 ++ R) := fun r hr => by rcases List.mem_append.1 hr with q | q; exact hs r q; exact hsR r q
 have post : ∀ (h3 : H) (ro2 : Nat) (W : View), Og h2 h3 [] → MapK encS h3 ro2 (mR W) → VOk W → W.length ≤ 1000000 → W = rangeV rev L0 R op → ∀ tm : T AV, tm.get 3 = some (.ptr h0.nx 0) → tm.get 4 = some (.ptr h1.nx 0) → tm.get 5 = some (.map ro2) →
   codeW P 41 28 none (codeI (bodyC Try.f41) [1, 1, 1]) [] tm h3 (retK P Try.f41 fun v h' => ∃ k, OpPost h0 h' bd bm ro base L0 v0 rev comp w R (resS op (inV (rangeV rev L0 R op) op.key op.fin)) v w k .nilslice) := by
  intro h3 ro2 W o3 m3 vok hW eW tm t3 t4 t5
  have Y' := gC Y o3 (by omega) (by simp)
  obtain ⟨Z0, Z1, Z2, Z3, Z4, Z5, Z6, Z7, Z8⟩ := Y'.u9
  have x3 := o3.1.1
  refine rT ?_ (V t3<|V t4<|V t5<|V Z0<|V Z1<|V Z2<|V Z3<|V Z4<|V Z5<|V Z6<|V Z7<|Z8)
  refine ((inViewC h3 ro2 W op.key op.fin m3 vok.nd hW (fun p hp => (vok.ky p hp).2)).call P).mono P ?_
  rintro v4 h4 ⟨o4, g4⟩
  have x4 := o4.1.1
  have g4o := g4.one
  obtain ⟨X0, X1, X2, X3, X4, X5, X6, X7, X8⟩ := (gC Y' o4 (by omega) (by simp)).u9
  refine rT ?_ (V X0<|V X1<|V X2<|V X3<|V X4<|V X5<|V X6<|V X7<|V X8<|V t3<|V t4<|V t5<|g4o)
  refine ((resC h4 op v4 (inV W op.key op.fin) h3.nx g4 (by have := inV_len W op.key op.fin; omega)).call P).mono P ?_
  rintro v5 h5 ⟨o5, k, hv5, g5⟩
  unfold Res.cs at hv5
  subst hv5
  have g5o := g5.one
  have g5c := g5.cells
  have x5 := o5.1.1
  obtain ⟨X0, X1, X2, X3, X4, X5, X6, X7, X8⟩ := (gC (gC Y' o4 (by omega) (by simp)) o5 (by omega) (by simp)).u9
  have A5 := gC (gC (gC A o3 (by omega) (by simp)) o4 (by omega) (by simp)) o5 (by omega) (by simp)
  obtain ⟨b0, b1, b2, b3, b4⟩ := A5.u5
  have w45 := kw (kw (kw w4 o3 (by omega) (by simp)) o4 (by omega) (by simp)) o5 (by omega) (by simp)
  have Bc := CellsAt.sts (o := 0) w45 ((resS op (inV W op.key op.fin)).cs k .nilslice)
  obtain ⟨h6, h6e⟩ : ∃ h6, h6 = h5.sts h1.nx 0 ((resS op (inV W op.key op.fin)).cs k .nilslice) := ⟨_, rfl⟩
  rw [← h6e] at Bc
  unfold Res.cs at Bc h6e
  obtain ⟨f0, f1, f2, f3, f4⟩ := Bc.u5
  have o45 := (o3.t o4).t o5
  have oo : Og h0 h6 []:= by rw [h6e]; exact (o12.t o45).sts (.inr (by omega))
  refine rT ?_ (V X0<|V X1<|V X2<|V X3<|V X4<|V X5<|V X6<|V X7<|V X8<|V t3<|V t4<|V t5<|V g5o<|V g5c<|V b0<|V b1<|V b2<|V b3<|V b4<|V w45<|V h6e.symm<|V f0<|V f1<|V f2<|V f3<|f4)
  have x6 : h6.nx = h5.nx:= by rw [h6e, nx_sts]
  have hpr : (resS op (inV W op.key op.fin)).prev = []:= by unfold resS; split <;> rfl
  rw [← eW]
  refine ⟨k, rfl, ?_, by rw [hpr]; exact .none, fun c e => ⟨by have := (g5.base e).1; omega, fun e2 => by have := (g5.base e).1; have := (d.gr.base e2).2; omega⟩, fun c e => (by cases e), g5o, rfl, d.keep oo, DoK.og oo _ _ _⟩
  exact g5.slice.move (by omega) (fun c e => by rw [h6e, get_sts _ _ _ _ (by have := (g5.base e).1; omega)])
 by_cases q : 0 < op.rev
 ·have d1 : decide (0 < op.rev) = true := decide_eq_true q
  have eW : atV op.rev L0 = rangeV rev L0 R op:= by unfold rangeV; rw [if_pos q]
  have md := d2.md
  refine pushC_of_codeW (fn := Try.f41) (c := bodyC Try.f41) Try.func41 rfl ?_
  show codeW P 41 28 none _ _ _ _ _
  refine codeW_root ?_
  refine rT ?_ (V bx<|V h2e<|V c0<|V c1<|V Y0<|V Y1<|V Y2<|V Y3<|V Y4<|V Y5<|V Y6<|V Y7<|V Y8<|d1)
  refine ((atC h2 bm op.rev L0 v0 md.lt md.c0 md.sl (by omega) (fun c e => by have := d.nv c e; omega)).call P).mono P ?_
  rintro _ h3 ⟨ro2, rfl, hro, o3, m3⟩
  have d3 := d2.keep o3
  have c03 := d3.c0
  obtain ⟨Z0, Z1, Z2, Z3, Z4, Z5, Z6, Z7, Z8⟩ := (gC Y o3 (by omega) (by simp)).u9
  repeat' (first | (with_reducible refine stopC [1, 1, 1] ?_) | ((with_reducible refine st1 ?_); (conv => whnf); (with_reducible refine ⟨?_⟩)) | ((with_reducible refine st_dw ?_ rfl rfl ?_ ?_); exact rfl; kernel_rfl; (conv => arg 5; whnf); (conv => arg 3; whnf)) | ((with_reducible refine retW_intro rfl ?_); (conv => arg 2; whnf)) | ((with_reducible first | refine iB ?_ ?_ | refine gWt ?_ ?_ | refine gWf ?_ ?_ | refine gXt ?_ ?_ | refine gXf ?_ ?_) <;> intro hb <;> (try simp only [hb])) | ((with_reducible show drawI _ _ _ _ _ _ _ _ _); first | ((with_reducible refine kI_rd ?_ ?_); exact rfl) | ((with_reducible apply kI_rg); exact rfl; exact rfl) | ((with_reducible refine kI_cv ?_ ?_ ?_); exact rfl; kernel_rfl) | ((with_reducible apply kI_al); exact rfl; exact rfl) | ((with_reducible refine kI_ex ?_ ?_ ?_ ?_ ?_); exact rfl; kernel_rfl; exact rfl) | ((with_reducible apply kI_eg); exact rfl; kernel_rfl; exact rfl) | ((with_reducible refine kI_nl ?_ ?_))) | ((with_reducible show eOk _ _ _ _ _ _); first | (exact eok_nil) | (refine ke_rd ?_ ?_ ?_; exact rfl) | (apply ke_rg; exact rfl; exact rfl) | (refine ke_cv ?_ ?_ ?_ ?_; exact rfl; kernel_rfl) | (apply ke_fl; exact rfl) | (apply ke_al; exact rfl; exact rfl)) | ((with_reducible refine freshIs_new ?_); kernel_rfl) | (simp only [B, xB, F, reduceLT, reduceLeDiff, reduceEqDiff, reduceAdd, reduceMul, reduceSub, ↓reduceIte, eq_self, c03, Z0, Z1, Z2, Z3, Z4, Z5, Z6, Z7, Z8]))
  refine ⟨?_⟩
  exact post h3 ro2 _ o3 m3 (atV_ok hs) (by have := atV_len (main := op.rev) hs; omega) eW _ (by exact sT) (by exact sT) (by exact sT)
 ·have d1 : decide (0 < op.rev) = false := decide_eq_false q
  have eW : atV (rev + 1) (L0 ++ R) = rangeV rev L0 R op:= by unfold rangeV; rw [if_neg q]
  refine pushC_of_codeW (fn := Try.f41) (c := bodyC Try.f41) Try.func41 rfl ?_
  show codeW P 41 28 none _ _ _ _ _
  refine codeW_root ?_
  repeat' (first | (with_reducible refine stopC [1, 1, 1] ?_) | ((with_reducible refine st1 ?_); (conv => whnf); (with_reducible refine ⟨?_⟩)) | ((with_reducible refine retW_intro rfl ?_); (conv => arg 2; whnf)) | ((with_reducible first | refine iB ?_ ?_ | refine gWt ?_ ?_ | refine gWf ?_ ?_) <;> intro hb <;> (try simp only [hb])) | (simp only [B, xB, F, reduceLT, reduceLeDiff, reduceEqDiff, reduceAdd, reduceMul, reduceSub, ↓reduceIte, eq_self, bx, h2e, c0, c1, Y0, Y1, Y2, Y3, Y4, Y5, Y6, Y7, Y8, d1]))
  refine ⟨?_⟩
  exact post h2 ro _ (Og.refl _ _) d2.mp (atV_ok hso) (by have := atV_len (main := rev + 1) hso; rw [List.length_append] at this; omega) eW _ (by exact sT) (by exact sT) (by exact sT)
end
end Go.Proofs.Ytnedigoajoflaaa.M

namespace Go.Proofs.Ytnedigoajoflaaa.M
open Go Go.AX
noncomputable section
set_option maxRecDepth 100000
def verV (n : Nat) : Nat := (n + 1) % M64
theorem verV_w (n : Nat) : wrapF .u64 (Int.ofNat n + Int.ofNat 1) = Int.ofNat (verV n) := by
 show (((n : Nat) : Int) + ((1 : Nat) : Int)) % 18446744073709551616 = (((n + 1) % 18446744073709551616 : Nat) : Int)
 omega
def putKV (rev : Nat) (op : Op) : Option Rec → KV
 | none => ⟨op.key, op.val, rev + 1, rev + 1, 1⟩
 | some r => ⟨op.key, op.val, r.kv.cre, rev + 1, verV r.kv.ver⟩
def putR (op : Op) (o : Option Rec) : Res := ⟨[], false, 0, 0, if op.prev then (o.map (·.kv)).toList else []⟩
set_option maxHeartbeats 4000000 in
theorem putTail (h0 h : H) (bd bm ro base : Nat) (L0 : List Rec) (v0 : AV) (rev comp : Nat) (R : List Rec) (w : AV) (d : DoAt h bd bm ro base L0 v0 rev comp R w) (oo : Og h0 h []) (op : Op) (x : Option Rec) (p : AV) (b4 b6 : Nat) (hr : rev ≤ 1000000) (hz : R.length ≤ 1000000)
  (A : CellsAt h b4 0 [.nilslice, .bool false, .int .i64 (.ofNat 0), .int .i64 (.ofNat 0), p]) (w4 : wrAt h b4 = true) (K6 : CellsAt h b6 0 (putKV rev op x).cs) (l4 : h0.nx ≤ b4) (l5 : b4 < h.nx) (l6 : b6 < h.nx) (l7 : h0.nx ≤ b6) (lb : base ≤ h0.nx) (hw : ∀ c, blkOf w = some c → c < h0.nx)
  (ps : SliceAt h p (putR op x).prev.length ((putR op x).prev.flatMap KV.cs)) (pb : ∀ c, blkOf p = some c → h0.nx ≤ c ∧ c < h.nx ∧ c ≠ b4) (po : p.one = true) (pc : p.cells = [p]) (tm : T AV) (t0 : tm.get 0 = some (.ptr bd 0)) (t4 : tm.get 4 = some (.ptr b4 0)) (t6 : tm.get 6 = some (.ptr b6 0)) :
  codeW P 42 54 none (codeI (bodyC Try.f42) [1, 1, 1, 1]) [] tm h (retK P Try.f42 fun v h' => ∃ p w', OpPost h0 h' bd bm ro base L0 v0 rev comp w (R ++ [mkR rev R (putKV rev op x) false]) (putR op x) v w' .nilslice p) := by
 have l1 := d.l1
 have l2 := d.l2
 have l3 := d.l3
 obtain ⟨q0, q1, q2, q3, q4⟩ := K6.u5
 refine rN ?_ (V t0<|V t4<|V t6<|V q0<|V q1<|V q2<|V q3<|q4)
 refine ((makeC h bd bm ro base L0 v0 rev comp R w d (putKV rev op x) false hr hz).call P).mono P ?_
 rintro _ h2 ⟨rfl, w', d2, k2⟩
 have x2 := k2.nx
 have k : ∀ c, c < h.nx → h0.nx ≤ c → h2.t.get c = h.t.get c := fun c hc hc0 => k2.old c hc (by omega) (by omega) (fun e => by have := hw c e; omega)
 have A2 := A.of_get (k b4 (by omega) l4)
 obtain ⟨a0, a1, a2, a3, a4⟩ := A2.u5
 have w42 : wrAt h2 b4 = true:= by rw [wrAt_of_get (k b4 (by omega) l4)]; exact w4
 obtain ⟨h3, h3e⟩ : ∃ h3, h3 = h2.sts b4 0 [.nilslice, .bool false, .int .i64 (.ofNat 0), .int .i64 (.ofNat 0), p] := ⟨_, rfl⟩
 have B3 : CellsAt h3 b4 0 [.nilslice, .bool false, .int .i64 (.ofNat 0), .int .i64 (.ofNat 0), p]:= by rw [h3e]; exact CellsAt.sts w42 _
 obtain ⟨e0, e1, e2, e3, e4⟩ := B3.u5
 have o3 : Og h2 h3 [b4]:= by rw [h3e]; exact (Og.refl _ _).sts (.inl (by simp))
 have x3 : h3.nx = h2.nx:= by rw [h3e, nx_sts]
 have nw := k2.nw
 have w4b : ∀ c, blkOf w' = some c → c < h0.nx ∨ h.nx ≤ c := fun c e => by
  rcases nw c e with q | q
  ·exact .inl (hw c q)
  ·exact .inr q
 have k3 : ∀ c, c < h2.nx → c ≠ b4 → h3.t.get c = h2.t.get c := fun c hc hn => o3.1.2 c hc (by simp [hn])
 refine rN ?_ (V t0<|V t4<|V t6<|V a0<|V a1<|V a2<|V a3<|V a4<|V w42<|V po<|V pc<|V h3e.symm<|V e0<|V e1<|V e2<|V e3<|e4)
 have d3 : DoAt h3 bd bm ro base L0 v0 rev comp (R ++ [mkR rev R (putKV rev op x) false]) w' := by
  have g : ∀ c, c < h0.nx → h3.t.get c = h2.t.get c := fun c hc => k3 c (by have := oo.1.1; omega) (by omega)
  exact ⟨by rw [cellAt_of_get (g bd (by omega))]; exact d2.c0, by rw [cellAt_of_get (g bd (by omega))]; exact d2.c1, by rw [cellAt_of_get (g bd (by omega))]; exact d2.c2, by rw [wrAt_of_get (g bd (by omega))]; exact d2.wr, d2.md.keep (by omega) (g bm (by omega)) (fun c e => g c (by have := d.nv c e; omega)), d2.mp.get (by omega) (g ro (by omega)), d2.gr.of_get (by omega) (fun c e => k3 c (d2.gr.base e).2 (fun e2 => by rcases w4b c e with q | q <;> omega)), l1, l2, l3, by omega, d.nv⟩
 refine ⟨p, w', rfl, .none, ?_, fun c e => (by cases e), fun c e => ⟨(pb c e).1, fun e2 => by have := pb c e; rcases w4b c e2 with q | q <;> omega⟩, rfl, po, d3, ?_⟩
 ·exact ps.move (by omega) (fun c e => by rw [k3 c (by have := pb c e; omega) (pb c e).2.2, k c (pb c e).2.1 (pb c e).1])
 ·have xo := oo.1.1
  refine ⟨by omega, fun c hc h1 h2' h3' => ?_, fun c e => ?_, ?_⟩
  ·rw [k3 c (by omega) (by omega), k2.old c (by omega) h1 h2' h3', oo.1.2 c hc (by simp)]
  ·rcases nw c e with q | q
   ·exact .inl q
   ·exact .inr (by omega)
  ·rw [o3.2, k2.g, oo.2]
set_option maxHeartbeats 4000000 in
theorem putC (h0 : H) (bd bm ro base : Nat) (L0 : List Rec) (v0 : AV) (rev comp : Nat) (R : List Rec) (w : AV) (d : DoAt h0 bd bm ro base L0 v0 rev comp R w) (op : Op) (hr : rev ≤ 1000000) (hz : R.length ≤ 1000000) :
  PushC P (.enter 42 [.ptr bd 0, .agg op.cs] h0) fun v h' => ∃ p w', OpPost h0 h' bd bm ro base L0 v0 rev comp w (R ++ [mkR rev R (putKV rev op (getR op.key (atV (rev + 1) (L0 ++ R)))) false]) (putR op (getR op.key (atV (rev + 1) (L0 ++ R)))) v w' .nilslice p := by
 have l1 := d.l1
 have l2 := d.l2
 have l3 := d.l3
 have l4 := d.l4
 obtain ⟨h1, h1e, o1, x1, y0, y1, y2, y3, y4, y5, y6, y7, y8⟩ := opNew h0 op
 obtain ⟨h2, h2e, o2, x2, w4, a0, a1, a2, a3, a4⟩ := resNew h1
 have o12 := o1.t o2
 have bx := bxO h0 op
 rw [h1e] at bx
 have Y := gC (show CellsAt h1 h0.nx 0 op.cs from .m9 y0 y1 y2 y3 y4 y5 y6 y7 y8) o2 (by omega) (by simp)
 obtain ⟨Y0, Y1, Y2, Y3, Y4, Y5, Y6, Y7, Y8⟩ := Y.u9
 obtain ⟨h3, h3e, o3, x3, k0, k1, k2, k3, k4, wk⟩ := kvBox h2 ⟨op.key, op.val, rev + 1, rev + 1, 1⟩
 simp only at h3e k0 k1 k2 k3 k4
 have Y3' := gC Y o3 (by omega) (by simp)
 obtain ⟨Z0, Z1, Z2, Z3, Z4, Z5, Z6, Z7, Z8⟩ := Y3'.u9
 have d1 := d.keep o1
 have d2 := d.keep o12
 have d3 := d2.keep o3
 have c0 := d2.c0
 have m1 := d2.md.c1
 have C1 := d3.c1
 have wr1 : wrapF .u64 (Int.ofNat rev + Int.ofNat 1) = Int.ofNat (rev + 1) := u64_add (by omega)
 obtain ⟨x, hx⟩ : ∃ x, x = getR op.key (atV (rev + 1) (L0 ++ R)) := ⟨_, rfl⟩
 have lk := (look_mR d3.mp op.key).2
 have lkn := (look_mR (d3.mp.keep ((Only.refl h3 []).new 94 [.int .u64 (.ofNat 0), .int .u64 (.ofNat 0), .str [], .str [], .int .u64 (.ofNat 0), .int .u64 (.ofNat 0), .int .u64 (.ofNat 0), .bool false]) (by simp)) op.key).2
 rw [← hx] at lk lkn ⊢
 obtain ⟨h4, h4e, o4, x4, z0, z1, z2, z3, z4, z5, z6, z7, -⟩ := recBox h3 (x.getD rec0)
 have o04 := (o12.t o3).t o4
 have d4 := d3.keep o4
 have n1 : (bd = h3.nx) = False:= by simp; omega
 have n2 : (h0.nx = h3.nx) = False:= by simp; omega
 have A4 := gC (gC (CellsAt.m5 a0 a1 a2 a3 a4) o3 (by omega) (by simp)) o4 (by omega) (by simp)
 have w44 := kw (kw w4 o3 (by omega) (by simp)) o4 (by omega) (by simp)
 have K4 := gC (CellsAt.m5 k0 k1 k2 k3 k4) o4 (by omega) (by simp)
 have wk4 := kw wk o4 (by omega) (by simp)
 have Y4' := gC Y3' o4 (by omega) (by simp)
 have hwb : ∀ c, blkOf w = some c → c < h0.nx := fun c e => (d.gr.base e).2
 unfold Rec.cs at lk lkn
 cases x with
 | none =>
  refine pushC_of_codeW (fn := Try.f42) (c := bodyC Try.f42) Try.func42 rfl ?_
  show codeW P 42 54 none _ _ _ _ _
  refine codeW_root ?_
  repeat' (first | (with_reducible refine stopC [1, 1, 1, 1] ?_) | ((with_reducible refine st1 ?_); (conv => whnf); (with_reducible refine ⟨?_⟩)) | ((with_reducible refine st_dw ?_ rfl rfl ?_ ?_); exact rfl; kernel_rfl; (conv => arg 5; whnf); (conv => arg 3; whnf)) | ((with_reducible refine retW_intro rfl ?_); (conv => arg 2; whnf)) | ((with_reducible first | refine iB ?_ ?_ | refine gWt ?_ ?_ | refine gWf ?_ ?_ | refine gXt ?_ ?_ | refine gXf ?_ ?_) <;> intro hb <;> (try simp only [hb])) | ((with_reducible show drawI _ _ _ _ _ _ _ _ _); first | ((with_reducible refine kI_rd ?_ ?_); exact rfl) | ((with_reducible apply kI_rg); exact rfl; exact rfl) | ((with_reducible refine kI_cv ?_ ?_ ?_); exact rfl; kernel_rfl) | ((with_reducible apply kI_al); exact rfl; exact rfl) | ((with_reducible refine kI_ex ?_ ?_ ?_ ?_ ?_); exact rfl; kernel_rfl; exact rfl) | ((with_reducible apply kI_eg); exact rfl; kernel_rfl; exact rfl) | ((with_reducible refine kI_nl ?_ ?_))) | ((with_reducible show eOk _ _ _ _ _ _); first | (exact eok_nil) | (refine ke_rd ?_ ?_ ?_; exact rfl) | (apply ke_rg; exact rfl; exact rfl) | (refine ke_cv ?_ ?_ ?_ ?_; exact rfl; kernel_rfl) | (apply ke_fl; exact rfl) | (apply ke_al; exact rfl; exact rfl)) | ((with_reducible refine freshIs_new ?_); kernel_rfl) | (simp only [B, xB, F, reduceLT, reduceLeDiff, reduceEqDiff, reduceAdd, reduceMul, reduceSub, ↓reduceIte, eq_self, bx, h2e, Y0, Y1, Y2, Y3, Y4, Y5, Y6, Y7, Y8, c0, m1, wr1, h3e, C1, Z0, Z1, Z2, Z3, Z4, Z5, Z6, Z7, Z8, @ex_lookup, lk, lkn, h4e, n1, n2, Option.isSome_none]))
  refine ⟨?_⟩
  exact putTail h0 h4 bd bm ro base L0 v0 rev comp R w d4 o04 op none .nilslice h1.nx h2.nx hr hz A4 w44 K4 (by omega) (by omega) (by omega) (by omega) l4 hwb (by unfold putR; cases op.prev <;> exact .none) (fun c e => by cases e) rfl rfl _ (by exact sT) (by exact sT) (by exact sT)
 | some r =>
  simp only [Option.getD_some] at lk lkn h4e z0 z1 z2 z3 z4 z5 z6 z7
  obtain ⟨q0, q1, q2, q3, q4⟩ := K4.u5
  have K5a := K4.put wk4 (j := 2) (by simp) (.int .u64 (.ofNat r.kv.cre))
  obtain ⟨h5, h5e⟩ : ∃ h5, h5 = (h4.sts h2.nx 2 [.int .u64 (.ofNat r.kv.cre)]).sts h2.nx 4 [.int .u64 (.ofNat (verV r.kv.ver))] := ⟨_, rfl⟩
  have K5 := K5a.put (by rw [wrAt_sts]; exact wk4) (j := 4) (by simp) (.int .u64 (.ofNat (verV r.kv.ver)))
  rw [Nat.zero_add, Nat.zero_add, ← h5e] at K5
  have o5 : Og h4 h5 [h2.nx]:= by rw [h5e]; exact ((Og.refl _ _).sts (.inl (by simp))).sts (.inl (by simp))
  have o05 : Og h0 h5 []:= by rw [h5e]; exact (o04.sts (.inr (by omega))).sts (.inr (by omega))
  have x5 : h5.nx = h4.nx:= by rw [h5e, nx_sts, nx_sts]
  have A5 := gC A4 o5 (by omega) (by simp; omega)
  have w45 := kw w44 o5 (by omega) (by simp; omega)
  obtain ⟨b0, b1, b2, b3, b4⟩ := A5.u5
  have Z45 := gC (CellsAt.m8 z0 z1 z2 z3 z4 z5 z6 z7) o5 (by omega) (by simp; omega)
  obtain ⟨s0, s1, s2, s3, s4, s5, s6, s7⟩ := Z45.u8
  obtain ⟨X0, X1, X2, X3, X4, X5, X6, X7, X8⟩ := (gC Y4' o5 (by omega) (by simp; omega)).u9
  have vw := verV_w r.kv.ver
  have kd : ∀ c, c < h4.nx → c ≠ h2.nx → h5.t.get c = h4.t.get c := fun c hc hn => o5.1.2 c hc (by simp [hn])
  have d5 : DoAt h5 bd bm ro base L0 v0 rev comp R w := by
   have g : ∀ c, c < h0.nx → h5.t.get c = h4.t.get c := fun c hc => kd c (by omega) (by omega)
   exact ⟨by rw [cellAt_of_get (g bd (by omega))]; exact d4.c0, by rw [cellAt_of_get (g bd (by omega))]; exact d4.c1, by rw [cellAt_of_get (g bd (by omega))]; exact d4.c2, by rw [wrAt_of_get (g bd (by omega))]; exact d4.wr, d4.md.keep (by omega) (g bm (by omega)) (fun c e => g c (by have := d.nv c e; omega)), d4.mp.get (by omega) (g ro (by omega)), d4.gr.of_get (by omega) (fun c e => g c (hwb c e)), l1, l2, l3, by omega, d.nv⟩
  cases qp : op.prev with
  | false =>
   rw [qp] at X8
   refine pushC_of_codeW (fn := Try.f42) (c := bodyC Try.f42) Try.func42 rfl ?_
   show codeW P 42 54 none _ _ _ _ _
   refine codeW_root ?_
   repeat' (first | (with_reducible refine stopC [1, 1, 1, 1] ?_) | ((with_reducible refine st1 ?_); (conv => whnf); (with_reducible refine ⟨?_⟩)) | ((with_reducible refine st_dw ?_ rfl rfl ?_ ?_); exact rfl; kernel_rfl; (conv => arg 5; whnf); (conv => arg 3; whnf)) | ((with_reducible refine retW_intro rfl ?_); (conv => arg 2; whnf)) | ((with_reducible first | refine iB ?_ ?_ | refine gWt ?_ ?_ | refine gWf ?_ ?_ | refine gXt ?_ ?_ | refine gXf ?_ ?_) <;> intro hb <;> (try simp only [hb])) | ((with_reducible show drawI _ _ _ _ _ _ _ _ _); first | ((with_reducible refine kI_rd ?_ ?_); exact rfl) | ((with_reducible apply kI_rg); exact rfl; exact rfl) | ((with_reducible refine kI_cv ?_ ?_ ?_); exact rfl; kernel_rfl) | ((with_reducible apply kI_al); exact rfl; exact rfl) | ((with_reducible refine kI_ex ?_ ?_ ?_ ?_ ?_); exact rfl; kernel_rfl; exact rfl) | ((with_reducible apply kI_eg); exact rfl; kernel_rfl; exact rfl) | ((with_reducible refine kI_nl ?_ ?_))) | ((with_reducible show eOk _ _ _ _ _ _); first | (exact eok_nil) | (refine ke_rd ?_ ?_ ?_; exact rfl) | (apply ke_rg; exact rfl; exact rfl) | (refine ke_cv ?_ ?_ ?_ ?_; exact rfl; kernel_rfl) | (apply ke_fl; exact rfl) | (apply ke_al; exact rfl; exact rfl)) | ((with_reducible refine freshIs_new ?_); kernel_rfl) | (simp only [B, xB, F, reduceLT, reduceLeDiff, reduceEqDiff, reduceAdd, reduceMul, reduceSub, ↓reduceIte, eq_self, bx, h2e, Y0, Y1, Y2, Y3, Y4, Y5, Y6, Y7, Y8, c0, m1, wr1, h3e, C1, Z0, Z1, Z2, Z3, Z4, Z5, Z6, Z7, Z8, @ex_lookup, lk, lkn, h4e, n1, n2, Option.isSome_some, z0, z1, z2, z3, z4, z5, z6, z7, vw, q2, q4, wk4, ← h5e, X8]))
   refine ⟨?_⟩
   exact putTail h0 h5 bd bm ro base L0 v0 rev comp R w d5 o05 op (some r) .nilslice h1.nx h2.nx hr hz A5 w45 K5 (by omega) (by omega) (by omega) (by omega) l4 hwb (by unfold putR; rw [qp]; exact .none) (fun c e => by cases e) rfl rfl _ (by exact sT) (by exact sT) (by exact sT)
  | true =>
   rw [qp] at X8
   obtain ⟨h6, h6e⟩ : ∃ h6, h6 = h5.newCells 55 [.str r.kv.key, .str r.kv.val, .int .u64 (.ofNat r.kv.cre), .int .u64 (.ofNat r.kv.mod), .int .u64 (.ofNat r.kv.ver)] := ⟨_, rfl⟩
   have o6 : Og h5 h6 []:= by rw [h6e]; exact (Og.refl _ _).new _ _
   have x6 : h6.nx = h5.nx + 1:= by rw [h6e]; rfl
   have A6 := gC A5 o6 (by omega) (by simp)
   have w46 := kw w45 o6 (by omega) (by simp)
   have S6 : SliceAt h6 (.slice h5.nx 0 1 (.exact 1)) 1 r.kv.cs := .cell _ _ _ _ _ (by omega) (by rw [h6e]; exact CellsAt.new h5 55 r.kv.cs)
   obtain ⟨h7, h7e⟩ : ∃ h7, h7 = h6.sts h1.nx 4 [.slice h5.nx 0 1 (.exact 1)] := ⟨_, rfl⟩
   have o7 : Og h6 h7 [h1.nx]:= by rw [h7e]; exact (Og.refl _ _).sts (.inl (by simp))
   have x7 : h7.nx = h6.nx:= by rw [h7e, nx_sts]
   have A7 := A6.put w46 (j := 4) (by simp) (.slice h5.nx 0 1 (.exact 1))
   rw [Nat.zero_add, ← h7e] at A7
   have w47 : wrAt h7 h1.nx = true:= by rw [h7e, wrAt_sts]; exact w46
   have o67 : Og h5 h7 [h1.nx] := o6.s1 o7
   have o07 : Og h0 h7 []:= by rw [h7e]; exact (o05.t o6).sts (.inr (by omega))
   obtain ⟨e0, e1, e2, e3, e4⟩ := A6.u5
   have d7 : DoAt h7 bd bm ro base L0 v0 rev comp R w := by
    have g : ∀ c, c < h0.nx → h7.t.get c = h5.t.get c := fun c hc => o67.1.2 c (by omega) (by simp; omega)
    exact ⟨by rw [cellAt_of_get (g bd (by omega))]; exact d5.c0, by rw [cellAt_of_get (g bd (by omega))]; exact d5.c1, by rw [cellAt_of_get (g bd (by omega))]; exact d5.c2, by rw [wrAt_of_get (g bd (by omega))]; exact d5.wr, d5.md.keep (by omega) (g bm (by omega)) (fun c e => g c (by have := d.nv c e; omega)), d5.mp.get (by omega) (g ro (by omega)), d5.gr.of_get (by omega) (fun c e => g c (hwb c e)), l1, l2, l3, by omega, d.nv⟩
   refine pushC_of_codeW (fn := Try.f42) (c := bodyC Try.f42) Try.func42 rfl ?_
   show codeW P 42 54 none _ _ _ _ _
   refine codeW_root ?_
   repeat' (first | (with_reducible refine stopC [1, 1, 1, 1] ?_) | ((with_reducible refine st1 ?_); (conv => whnf); (with_reducible refine ⟨?_⟩)) | ((with_reducible refine st_dw ?_ rfl rfl ?_ ?_); exact rfl; kernel_rfl; (conv => arg 5; whnf); (conv => arg 3; whnf)) | ((with_reducible refine retW_intro rfl ?_); (conv => arg 2; whnf)) | ((with_reducible first | refine iB ?_ ?_ | refine gWt ?_ ?_ | refine gWf ?_ ?_ | refine gXt ?_ ?_ | refine gXf ?_ ?_) <;> intro hb <;> (try simp only [hb])) | ((with_reducible show drawI _ _ _ _ _ _ _ _ _); first | ((with_reducible refine kI_rd ?_ ?_); exact rfl) | ((with_reducible apply kI_rg); exact rfl; exact rfl) | ((with_reducible refine kI_cv ?_ ?_ ?_); exact rfl; kernel_rfl) | ((with_reducible apply kI_al); exact rfl; exact rfl) | ((with_reducible refine kI_ex ?_ ?_ ?_ ?_ ?_); exact rfl; kernel_rfl; exact rfl) | ((with_reducible apply kI_eg); exact rfl; kernel_rfl; exact rfl) | ((with_reducible refine kI_nl ?_ ?_))) | ((with_reducible show eOk _ _ _ _ _ _); first | (exact eok_nil) | (refine ke_rd ?_ ?_ ?_; exact rfl) | (apply ke_rg; exact rfl; exact rfl) | (refine ke_cv ?_ ?_ ?_ ?_; exact rfl; kernel_rfl) | (apply ke_fl; exact rfl) | (apply ke_al; exact rfl; exact rfl)) | ((with_reducible refine freshIs_new ?_); kernel_rfl) | (simp only [B, xB, F, reduceLT, reduceLeDiff, reduceEqDiff, reduceAdd, reduceMul, reduceSub, ↓reduceIte, eq_self, bx, h2e, Y0, Y1, Y2, Y3, Y4, Y5, Y6, Y7, Y8, c0, m1, wr1, h3e, C1, Z0, Z1, Z2, Z3, Z4, Z5, Z6, Z7, Z8, @ex_lookup, lk, lkn, h4e, n1, n2, Option.isSome_some, z0, z1, z2, z3, z4, z5, z6, z7, vw, q2, q4, wk4, ← h5e, X8, s0, s1, s2, s3, s4, s5, s6, s7, ← h6e, e4, w46, ← h7e]))
   refine ⟨?_⟩
   refine putTail h0 h7 bd bm ro base L0 v0 rev comp R w d7 o07 op (some r) (.slice h5.nx 0 1 (.exact 1)) h1.nx h2.nx hr hz A7 w47 (gC K5 o67 (by omega) (by simp; omega)) (by omega) (by omega) (by omega) (by omega) l4 hwb ?_ (fun c e => by cases e; exact ⟨by omega, by omega, by omega⟩) rfl rfl _ (by exact sT) (by exact sT) (by exact sT)
   have e : (putR op (some r)).prev = [r.kv]:= by unfold putR; rw [qp]; rfl
   rw [e, List.flatMap_singleton]
   exact S6.move (by omega) (fun c e => by cases e; exact o7.1.2 h5.nx (by omega) (by simp; omega))
end
end Go.Proofs.Ytnedigoajoflaaa.M

namespace Go.Proofs.Ytnedigoajoflaaa.M
open Go Go.AX
noncomputable section
set_option maxRecDepth 100000
def goneR (rev : Nat) (R : List Rec) (x : KV) : List Rec := R ++ [mkR rev R ⟨x.key, [], 0, 0, 0⟩ true]
def dropRs (rev : Nat) (R : List Rec) (l : List KV) : List Rec := l.foldl (goneR rev) R
theorem dropRs_s {rev : Nat} {R : List Rec} {l : List KV} {i : Nat} {x : KV} (h : l[i]? = some x) : dropRs rev R (l.take (i + 1)) = goneR rev (dropRs rev R (l.take i)) x := by
 unfold dropRs
 rw [List.take_add_one, h, List.foldl_append]; rfl
theorem dropRs_len (rev : Nat) : ∀ (l : List KV) (R : List Rec), (dropRs rev R l).length = R.length + l.length
 | [], R => rfl
 | x :: l, R => by
  have := dropRs_len rev l (goneR rev R x)
  show (dropRs rev (goneR rev R x) l).length = _
  rw [this]; unfold goneR; simp; omega
def dropR (op : Op) (l : List KV) : Res := ⟨[], false, 0, l.length, if op.prev then l else []⟩
structure DrI (hA : H) (bd bm ro base : Nat) (L0 : List Rec) (v0 : AV) (rev comp : Nat) (R : List Rec) (w : AV) (l : List KV) (v : AV) (b4 : Nat) (m : Nat) (ds : List Nat) (tm : T AV) (h : H) (i : Nat) (w' : AV) : Prop where
 ds : ds = []
 nn : m = l.length - i
 ii : i ≤ l.length
 t0 : tm.get 0 = some (.ptr bd 0)
 t4 : tm.get 4 = some (.ptr b4 0)
 t24 : tm.get 24 = some v
 t25 : tm.get 25 = some (.int .i64 (.ofNat l.length))
 t26 : tm.get 26 = some (.int .i64 (.ofNat i))
 d : DoAt h bd bm ro base L0 v0 rev comp (dropRs rev R (l.take i)) w'
 k : DoK hA h bd ro w w'
set_option maxHeartbeats 4000000 in
theorem dropTail (h0 hA : H) (bd bm ro base : Nat) (L0 : List Rec) (v0 : AV) (rev comp : Nat) (R : List Rec) (w : AV) (d : DoAt hA bd bm ro base L0 v0 rev comp R w) (oo : Og h0 hA []) (op : Op) (l : List KV) (v p : AV) (b4 : Nat) (hr : rev ≤ 1000000) (hz : R.length + l.length ≤ 1000000)
  (A : CellsAt hA b4 0 [.nilslice, .bool false, .int .i64 (.ofNat 0), .int .i64 (.ofNat l.length), p]) (w4 : wrAt hA b4 = true) (l4 : h0.nx ≤ b4) (l5 : b4 < hA.nx) (lb : base ≤ h0.nx) (hw : ∀ c, blkOf w = some c → c < h0.nx)
  (vs : SliceAt hA v l.length (l.flatMap KV.cs)) (vb : ∀ c, blkOf v = some c → h0.nx ≤ c ∧ c < hA.nx ∧ c ≠ b4) (vo : v.one = true) (hp : p = if op.prev then v else .nilslice) (pc : p.cells = [p]) (tm : T AV) (t0 : tm.get 0 = some (.ptr bd 0)) (t4 : tm.get 4 = some (.ptr b4 0)) (t5 : tm.get 5 = some v) :
  codeW P 43 37 none (codeI (bodyC Try.f43) [1, 1, 1, 1]) [] tm hA (retK P Try.f43 fun u h' => ∃ p w', OpPost h0 h' bd bm ro base L0 v0 rev comp w (dropRs rev R l) (dropR op l) u w' .nilslice p) := by
 have l1 := d.l1
 have l2 := d.l2
 have l3 := d.l3
 have xo := oo.1.1
 have hlen := vs.len (P := P) u44a
 have po : p.one = true:= by rw [hp]; split; exact vo; rfl
 refine rN ?_ (V t0<|V t4<|V t5<|hlen)
 refine st_loop (fun m ds tm h => ∃ i w', DrI hA bd bm ro base L0 v0 rev comp R w l v b4 m ds tm h i w') l.length rfl ⟨0, w, rfl, rfl, Nat.zero_le _, by exact sT, by exact sT, by exact sT, by exact sT, by exact sT, d, DoK.og (Og.refl _ _) _ _ _⟩ (fun m ds tm h hI => ?_)
 clear t0 t4 t5
 obtain ⟨i, w', rfl, rfl, ii, t0, t4, t24, t25, t26, d', k⟩ := hI
 have xk := k.nx
 have kk : ∀ c, c < hA.nx → h0.nx ≤ c → h.t.get c = hA.t.get c := fun c hc hc0 => k.old c hc (by omega) (by omega) (fun e => by have := hw c e; omega)
 by_cases hi : i < l.length
 ·have di : decide (i < l.length) = true := decide_eq_true hi
  have lt1 : (i < l.length) = True:= by simp [hi]
  obtain ⟨x, hx⟩ : ∃ x, l[i]? = some x := ⟨_, List.getElem?_eq_getElem hi⟩
  have vsh := vs.move xk (fun c e => kk c (vb c e).2.1 (vb c e).1)
  have w1 : wrapF .i64 (Int.ofNat i + Int.ofNat 1) = Int.ofNat (i + 1) := i64_add (by omega)
  obtain ⟨bv, ov, cv, rfl, hbv, -⟩ := vsh.place (by omega)
  obtain ⟨q0, q1, q2, q3, q4⟩ := KV.at vsh hx
  obtain ⟨h2, h2e, o2, x2, y0, y1, y2, y3, y4, wy⟩ := kvBox h x
  have hln := dropRs_len rev (l.take i) R
  rw [List.length_take] at hln
  refine rN ?_ (V t0<|V t4<|V t24<|V t25<|V t26<|V di<|V lt1<|V q0<|V q1<|V q2<|V q3<|V q4<|V h2e<|y0)
  refine ((makeC h2 bd bm ro base L0 v0 rev comp _ w' (d'.keep o2) ⟨x.key, [], 0, 0, 0⟩ true hr (by omega)).call P).mono P ?_
  rintro _ h3 ⟨rfl, w3, d3, k3⟩
  refine rN ?_ (V t26<|w1)
  exact ⟨l.length - (i + 1), by omega, i + 1, w3, rfl, rfl, by omega, by exact sT, by exact sT, by exact sT, by exact sT, by exact sT, by rw [dropRs_s hx]; exact d3, k.t ((DoK.og o2 _ _ _).t k3)⟩
 ·have di : decide (i < l.length) = false := decide_eq_false hi
  obtain rfl : i = l.length:= by omega
  rw [List.take_length] at d'
  have A2 := A.of_get (kk b4 l5 l4)
  obtain ⟨a0, a1, a2, a3, a4⟩ := A2.u5
  have w42 : wrAt h b4 = true:= by rw [wrAt_of_get (kk b4 l5 l4)]; exact w4
  obtain ⟨h3, h3e⟩ : ∃ h3, h3 = h.sts b4 0 [.nilslice, .bool false, .int .i64 (.ofNat 0), .int .i64 (.ofNat l.length), p] := ⟨_, rfl⟩
  have B3 : CellsAt h3 b4 0 [.nilslice, .bool false, .int .i64 (.ofNat 0), .int .i64 (.ofNat l.length), p]:= by rw [h3e]; exact CellsAt.sts w42 _
  obtain ⟨e0, e1, e2, e3, e4⟩ := B3.u5
  have o3 : Og h h3 [b4]:= by rw [h3e]; exact (Og.refl _ _).sts (.inl (by simp))
  have x3 : h3.nx = h.nx:= by rw [h3e, nx_sts]
  have nw := k.nw
  have w4b : ∀ c, blkOf w' = some c → c < h0.nx ∨ hA.nx ≤ c := fun c e => by
   rcases nw c e with q | q
   ·exact .inl (hw c q)
   ·exact .inr q
  have k3 : ∀ c, c < h.nx → c ≠ b4 → h3.t.get c = h.t.get c := fun c hc hn => o3.1.2 c hc (by simp [hn])
  refine rN ?_ (V t0<|V t4<|V t24<|V t25<|V t26<|V di<|V a0<|V a1<|V a2<|V a3<|V a4<|V w42<|V po<|V pc<|V h3e.symm<|V e0<|V e1<|V e2<|V e3<|e4)
  have d3 : DoAt h3 bd bm ro base L0 v0 rev comp (dropRs rev R l) w' := by
   have g : ∀ c, c < h0.nx → h3.t.get c = h.t.get c := fun c hc => k3 c (by omega) (by omega)
   exact ⟨by rw [cellAt_of_get (g bd (by omega))]; exact d'.c0, by rw [cellAt_of_get (g bd (by omega))]; exact d'.c1, by rw [cellAt_of_get (g bd (by omega))]; exact d'.c2, by rw [wrAt_of_get (g bd (by omega))]; exact d'.wr, d'.md.keep (by omega) (g bm (by omega)) (fun c e => g c (by have := d.nv c e; omega)), d'.mp.get (by omega) (g ro (by omega)), d'.gr.of_get (by omega) (fun c e => k3 c (d'.gr.base e).2 (fun e2 => by rcases w4b c e with q | q <;> omega)), l1, l2, l3, by omega, d.nv⟩
  have hpb : ∀ c, blkOf p = some c → h0.nx ≤ c ∧ c < hA.nx ∧ c ≠ b4 := fun c e => by
   rw [hp] at e
   split at e
   ·exact vb c e
   ·cases e
  refine ⟨p, w', rfl, .none, ?_, fun c e => (by cases e), fun c e => ⟨(hpb c e).1, fun e2 => by have := hpb c e; rcases w4b c e2 with q | q <;> omega⟩, rfl, po, d3, ?_⟩
  ·have vs3 := vs.move (h' := h3) (by omega) (fun c e => by rw [k3 c (by have := vb c e; omega) (vb c e).2.2, kk c (vb c e).2.1 (vb c e).1])
   rw [hp]
   unfold dropR
   simp only
   split
   ·exact vs3
   ·exact .none
  ·refine ⟨by omega, fun c hc h1 h2' h3' => ?_, fun c e => ?_, ?_⟩
   ·rw [k3 c (by omega) (by omega), k.old c (by omega) h1 h2' h3', oo.1.2 c hc (by simp)]
   ·rcases nw c e with q | q
    ·exact .inl q
    ·exact .inr (by omega)
   ·rw [o3.2, k.g, oo.2]
set_option maxHeartbeats 4000000 in
theorem dropC (h0 : H) (bd bm ro base : Nat) (L0 : List Rec) (v0 : AV) (rev comp : Nat) (R : List Rec) (w : AV) (d : DoAt h0 bd bm ro base L0 v0 rev comp R w) (op : Op) (hr : rev ≤ 1000000) (hs : Short L0) (hsR : Short R) (hz : L0.length ≤ 200000) (hzR : R.length ≤ 200000) :
  PushC P (.enter 43 [.ptr bd 0, .agg op.cs] h0) fun v h' => ∃ p w', OpPost h0 h' bd bm ro base L0 v0 rev comp w (dropRs rev R (inV (atV (rev + 1) (L0 ++ R)) op.key op.fin)) (dropR op (inV (atV (rev + 1) (L0 ++ R)) op.key op.fin)) v w' .nilslice p := by
 have l1 := d.l1
 have l2 := d.l2
 have l3 := d.l3
 have l4 := d.l4
 obtain ⟨h1, h1e, o1, x1, y0, y1, y2, y3, y4, y5, y6, y7, y8⟩ := opNew h0 op
 obtain ⟨h2, h2e, o2, x2, w4, a0, a1, a2, a3, a4⟩ := resNew h1
 have o12 := o1.t o2
 have bx := bxO h0 op
 rw [h1e] at bx
 have Y := gC (show CellsAt h1 h0.nx 0 op.cs from .m9 y0 y1 y2 y3 y4 y5 y6 y7 y8) o2 (by omega) (by simp)
 obtain ⟨Y0, Y1, Y2, Y3, Y4, Y5, Y6, Y7, Y8⟩ := Y.u9
 have d2 := d.keep o12
 have c1 := d2.c1
 have hso : Short (L0 ++ R) := fun r hr => by rcases List.mem_append.1 hr with q | q; exact hs r q; exact hsR r q
 have vok := atV_ok (main := rev + 1) hso
 have vln := atV_len (main := rev + 1) hso
 rw [List.length_append] at vln
 have hwb : ∀ c, blkOf w = some c → c < h0.nx := fun c e => (d.gr.base e).2
 have A0 := CellsAt.m5 a0 a1 a2 a3 a4
 refine pushC_of_codeW (fn := Try.f43) (c := bodyC Try.f43) Try.func43 rfl ?_
 show codeW P 43 37 none _ _ _ _ _
 refine codeW_root ?_
 refine rT ?_ (V bx<|V h2e<|V c1<|V Y0<|V Y1<|V Y2<|V Y3<|V Y4<|V Y5<|V Y6<|V Y7<|Y8)
 refine ((inViewC h2 ro _ op.key op.fin d2.mp vok.nd (by omega) (fun p hp => (vok.ky p hp).2)).call P).mono P ?_
 rintro v h3 ⟨o3, g3⟩
 obtain ⟨l, hl⟩ : ∃ l, l = inV (atV (rev + 1) (L0 ++ R)) op.key op.fin := ⟨_, rfl⟩
 have hll : l.length ≤ 500000:= by rw [hl]; have := inV_len (atV (rev + 1) (L0 ++ R)) op.key op.fin; omega
 rw [← hl] at g3 ⊢
 have g3o := g3.one
 have g3c := g3.cells
 have hlen := g3.slice.len (P := P) u44a
 have c13 := (d2.keep o3).c1
 have A3 := gC A0 o3 (by omega) (by simp)
 have w43 := kw w4 o3 (by omega) (by simp)
 have Y3 := gC Y o3 (by omega) (by simp)
 obtain ⟨Z0, Z1, Z2, Z3, Z4, Z5, Z6, Z7, Z8⟩ := Y3.u9
 obtain ⟨b0, b1, b2, b3, b4⟩ := A3.u5
 obtain ⟨h4, h4e⟩ : ∃ h4, h4 = h3.sts h1.nx 3 [.int .i64 (.ofNat l.length)] := ⟨_, rfl⟩
 have A4 := A3.put w43 (j := 3) (by simp) (.int .i64 (.ofNat l.length))
 rw [Nat.zero_add, ← h4e] at A4
 have o4 : Og h3 h4 [h1.nx]:= by rw [h4e]; exact (Og.refl _ _).sts (.inl (by simp))
 have x4 : h4.nx = h3.nx:= by rw [h4e, nx_sts]
 have x3 := o3.1.1
 have w44 : wrAt h4 h1.nx = true:= by rw [h4e, wrAt_sts]; exact w43
 obtain ⟨e0, e1, e2, e3, e4⟩ := A4.u5
 obtain ⟨X0, X1, X2, X3, X4, X5, X6, X7, X8⟩ := (gC Y3 o4 (by omega) (by simp; omega)).u9
 have o04 : Og h0 h4 []:= by rw [h4e]; exact (o12.t o3).sts (.inr (by omega))
 have d4 : DoAt h4 bd bm ro base L0 v0 rev comp R w := d.keep o04
 have vb : ∀ c, blkOf v = some c → h2.nx ≤ c ∧ c < h3.nx := fun c e => g3.base e
 cases qp : op.prev with
 | false =>
  rw [qp] at X8
  repeat' (first | (with_reducible refine stopC [1, 1, 1, 1] ?_) | ((with_reducible refine st1 ?_); (conv => whnf); (with_reducible refine ⟨?_⟩)) | ((with_reducible refine st_dw ?_ rfl rfl ?_ ?_); exact rfl; kernel_rfl; (conv => arg 5; whnf); (conv => arg 3; whnf)) | ((with_reducible refine retW_intro rfl ?_); (conv => arg 2; whnf)) | ((with_reducible first | refine iB ?_ ?_ | refine gWt ?_ ?_ | refine gWf ?_ ?_ | refine gXt ?_ ?_ | refine gXf ?_ ?_) <;> intro hb <;> (try simp only [hb])) | ((with_reducible show drawI _ _ _ _ _ _ _ _ _); first | ((with_reducible refine kI_rd ?_ ?_); exact rfl) | ((with_reducible apply kI_rg); exact rfl; exact rfl) | ((with_reducible refine kI_cv ?_ ?_ ?_); exact rfl; kernel_rfl) | ((with_reducible apply kI_al); exact rfl; exact rfl) | ((with_reducible refine kI_ex ?_ ?_ ?_ ?_ ?_); exact rfl; kernel_rfl; exact rfl) | ((with_reducible apply kI_eg); exact rfl; kernel_rfl; exact rfl) | ((with_reducible refine kI_nl ?_ ?_))) | ((with_reducible show eOk _ _ _ _ _ _); first | (exact eok_nil) | (refine ke_rd ?_ ?_ ?_; exact rfl) | (apply ke_rg; exact rfl; exact rfl) | (refine ke_cv ?_ ?_ ?_ ?_; exact rfl; kernel_rfl) | (apply ke_fl; exact rfl) | (apply ke_al; exact rfl; exact rfl)) | ((with_reducible refine freshIs_new ?_); kernel_rfl) | (simp only [B, xB, F, reduceLT, reduceLeDiff, reduceEqDiff, reduceAdd, reduceMul, reduceSub, ↓reduceIte, eq_self, c13, Z0, Z1, Z2, Z3, Z4, Z5, Z6, Z7, Z8, g3o, g3c, hlen, b3, w43, ← h4e, X8]))
  refine ⟨?_⟩
  exact dropTail h0 h4 bd bm ro base L0 v0 rev comp R w d4 o04 op l v .nilslice h1.nx hr (by omega) A4 w44 (by omega) (by omega) l4 hwb (g3.slice.move (by omega) (fun c e => o4.1.2 c (vb c e).2 (by have := vb c e; simp; omega))) (fun c e => by have := vb c e; exact ⟨by omega, by omega, by omega⟩) g3o (by rw [qp]; rfl) rfl _ (by exact sT) (by exact sT) (by exact sT)
 | true =>
  rw [qp] at X8
  obtain ⟨h5, h5e⟩ : ∃ h5, h5 = h4.sts h1.nx 4 [v] := ⟨_, rfl⟩
  have A5 := A4.put w44 (j := 4) (by simp) v
  rw [Nat.zero_add, ← h5e] at A5
  have o5 : Og h4 h5 [h1.nx]:= by rw [h5e]; exact (Og.refl _ _).sts (.inl (by simp))
  have x5 : h5.nx = h4.nx:= by rw [h5e, nx_sts]
  have w45 : wrAt h5 h1.nx = true:= by rw [h5e, wrAt_sts]; exact w44
  have o05 : Og h0 h5 []:= by rw [h5e]; exact o04.sts (.inr (by omega))
  repeat' (first | (with_reducible refine stopC [1, 1, 1, 1] ?_) | ((with_reducible refine st1 ?_); (conv => whnf); (with_reducible refine ⟨?_⟩)) | ((with_reducible refine st_dw ?_ rfl rfl ?_ ?_); exact rfl; kernel_rfl; (conv => arg 5; whnf); (conv => arg 3; whnf)) | ((with_reducible refine retW_intro rfl ?_); (conv => arg 2; whnf)) | ((with_reducible first | refine iB ?_ ?_ | refine gWt ?_ ?_ | refine gWf ?_ ?_ | refine gXt ?_ ?_ | refine gXf ?_ ?_) <;> intro hb <;> (try simp only [hb])) | ((with_reducible show drawI _ _ _ _ _ _ _ _ _); first | ((with_reducible refine kI_rd ?_ ?_); exact rfl) | ((with_reducible apply kI_rg); exact rfl; exact rfl) | ((with_reducible refine kI_cv ?_ ?_ ?_); exact rfl; kernel_rfl) | ((with_reducible apply kI_al); exact rfl; exact rfl) | ((with_reducible refine kI_ex ?_ ?_ ?_ ?_ ?_); exact rfl; kernel_rfl; exact rfl) | ((with_reducible apply kI_eg); exact rfl; kernel_rfl; exact rfl) | ((with_reducible refine kI_nl ?_ ?_))) | ((with_reducible show eOk _ _ _ _ _ _); first | (exact eok_nil) | (refine ke_rd ?_ ?_ ?_; exact rfl) | (apply ke_rg; exact rfl; exact rfl) | (refine ke_cv ?_ ?_ ?_ ?_; exact rfl; kernel_rfl) | (apply ke_fl; exact rfl) | (apply ke_al; exact rfl; exact rfl)) | ((with_reducible refine freshIs_new ?_); kernel_rfl) | (simp only [B, xB, F, reduceLT, reduceLeDiff, reduceEqDiff, reduceAdd, reduceMul, reduceSub, ↓reduceIte, eq_self, c13, Z0, Z1, Z2, Z3, Z4, Z5, Z6, Z7, Z8, g3o, g3c, hlen, b3, w43, ← h4e, X8, e4, w44, ← h5e]))
  refine ⟨?_⟩
  exact dropTail h0 h5 bd bm ro base L0 v0 rev comp R w (d.keep o05) o05 op l v v h1.nx hr (by omega) A5 w45 (by omega) (by omega) l4 hwb (g3.slice.move (by omega) (fun c e => by have := vb c e; rw [o5.1.2 c (by omega) (by simp; omega), o4.1.2 c (by omega) (by simp; omega)])) (fun c e => by have := vb c e; exact ⟨by omega, by omega, by omega⟩) g3o (by rw [qp]; rfl) g3c _ (by exact sT) (by exact sT) (by exact sT)
end
end Go.Proofs.Ytnedigoajoflaaa.M

namespace Go.Proofs.Ytnedigoajoflaaa.M
open Go Go.AX
noncomputable section
set_option maxRecDepth 100000
theorem ex_sl_hm {tm : T AV} {h : H} (t : TypeId) (x a b : Operand) : execA P tm h (.slice t x none (some a) (some b)) = ob (evalA tm x) fun v => ob (evalA tm a) fun l => ob (evalA tm b) fun r => ob (sliceA P t v none (some l) (some r)) fun v => .val v h := by
 simp only [execA, evalO]
 cases evalA tm x with
 | none => cases evalA tm a <;> cases evalA tm b <;> rfl
 | some v => cases evalA tm a with
  | none => cases evalA tm b <;> rfl
  | some l => cases evalA tm b with
   | none => rfl
   | some r => show optV h (sliceA P t v none (some l) (some r)) = ob (sliceA P t v none (some l) (some r)) _; cases sliceA P t v none (some l) (some r) <;> rfl
theorem clip_sl (b n : Nat) : sliceA P 45 (.slice b 0 n (.opn 0)) none (some (.int .i64 (.ofNat n))) (some (.int .i64 (.ofNat n))) = some (.slice b 0 n (.exact n)) := by
 simp only [sliceA, u45a, show okT P 94 = true from by kernel_rfl, sliceOp, bndO, bnd, ble_t (Nat.le_refl n)]
 cases Nat.beq n 0 <;> rfl
theorem clipC (h : H) (b0 : Nat) (v : AV) (n : Nat) (cs : List AV) (g : Grows 8 b0 h v n cs) : PushC P (.enter 44 [v] h) (fun u h' => h' = h ∧ ((n = 0 ∧ v = .nilslice ∧ u = .nilslice) ∨ (∃ b, v = .slice b 0 n (.opn 0) ∧ u = .slice b 0 n (.exact n)))) := by
 have hlen := g.slice.len (P := P) u45a
 have hone := g.one
 cases g with
 | none =>
  have e : sliceA P 45 .nilslice none (some (.int .i64 (.ofNat 0))) (some (.int .i64 (.ofNat 0))) = some .nilslice:= by kernel_rfl
  refine pushC_of_codeW (fn := Try.f44) (c := bodyC Try.f44) Try.func44 rfl ?_
  show codeW P 44 9 none _ _ _ _ _
  refine codeW_root ?_
  repeat' (first | ((with_reducible refine st1 ?_); (conv => whnf); (with_reducible refine ⟨?_⟩)) | ((with_reducible refine retW_intro rfl ?_); (conv => arg 2; whnf)) | ((with_reducible first | refine iB ?_ ?_ | refine gWt ?_ ?_ | refine gWf ?_ ?_) <;> intro hb <;> (try simp only [hb])) | (simp only [B, F, reduceLT, reduceLeDiff, reduceEqDiff, reduceAdd, reduceMul, reduceSub, ↓reduceIte, eq_self, hlen, hone, @ex_sl_hm, e]))
  exact .inl trivial
 | cell b n cs t ty h1 h2 h3 h4 h5 =>
  have e := clip_sl b n
  refine pushC_of_codeW (fn := Try.f44) (c := bodyC Try.f44) Try.func44 rfl ?_
  show codeW P 44 9 none _ _ _ _ _
  refine codeW_root ?_
  repeat' (first | ((with_reducible refine st1 ?_); (conv => whnf); (with_reducible refine ⟨?_⟩)) | ((with_reducible refine retW_intro rfl ?_); (conv => arg 2; whnf)) | ((with_reducible first | refine iB ?_ ?_ | refine gWt ?_ ?_ | refine gWf ?_ ?_) <;> intro hb <;> (try simp only [hb])) | (simp only [B, F, reduceLT, reduceLeDiff, reduceEqDiff, reduceAdd, reduceMul, reduceSub, ↓reduceIte, eq_self, hlen, hone, @ex_sl_hm, e]))
  exact .inr ⟨b, rfl, rfl⟩
def failsB (W : View) (c : Cmp) : Bool := !holdsB c (getKV c.key W) (getR c.key W).isSome
set_option maxHeartbeats 4000000 in
theorem failsC (h0 : H) (b5 bd ro : Nat) (W : View) (c : Cmp) (k5 : cellAt h0 b5 0 = some (.ptr bd 0)) (k1 : cellAt h0 bd 1 = some (.map ro)) (mp : MapK encS h0 ro (mR W)) (l5 : b5 < h0.nx) (ld : bd < h0.nx) :
  PushC P (.enter 36 [.agg c.cs, .ptr b5 0] h0) (SaysG h0 (.bool (failsB W c))) := by
 obtain ⟨h1, h1e⟩ : ∃ h1, h1 = h0.newCells 68 c.cs := ⟨_, rfl⟩
 have o1 : Og h0 h1 []:= by rw [h1e]; exact (Og.refl _ _).new _ _
 have x1 : h1.nx = h0.nx + 1:= by rw [h1e]; rfl
 have bx := bxC h0 c
 rw [← h1e] at bx
 have Y : CellsAt h1 h0.nx 0 [.str c.key, .int .i64 c.what, .int .i64 c.how, .int .u64 (.ofNat c.n), .str c.val]:= by rw [h1e]; exact CellsAt.new h0 68 c.cs
 obtain ⟨y0, y1, y2, y3, y4⟩ := Y.u5
 have k51 := kc k5 o1 l5 (by simp)
 have k11 := kc k1 o1 ld (by simp)
 have m1 := mp.keep o1.1 (by simp)
 have lk := (look_mR m1 c.key).2
 have lkn := (look_mR (m1.keep ((Only.refl h1 []).new 94 [.int .u64 (.ofNat 0), .int .u64 (.ofNat 0), .str [], .str [], .int .u64 (.ofNat 0), .int .u64 (.ofNat 0), .int .u64 (.ofNat 0), .bool false]) (by simp)) c.key).2
 obtain ⟨x, hx⟩ : ∃ x, x = (getR c.key W).getD rec0 := ⟨_, rfl⟩
 obtain ⟨is, his⟩ : ∃ is, is = (getR c.key W).isSome := ⟨_, rfl⟩
 have hkv : getKV c.key W = x.kv:= by rw [getKV_eq, hx]
 have ef : failsB W c = !holdsB c x.kv is:= by unfold failsB; rw [hkv, his]
 rw [← hx, ← his] at lk lkn
 rw [ef]
 obtain ⟨h2, h2e, o2, x2, z0, z1, z2, z3, z4, z5, z6, z7, -⟩ := recBox h1 x
 obtain ⟨Y0, Y1, Y2, Y3, Y4⟩ := (gC Y o2 (by omega) (by simp)).u5
 have n1 : (b5 = h1.nx) = False:= by simp; omega
 have n2 : (bd = h1.nx) = False:= by simp; omega
 have n3 : (h0.nx = h1.nx) = False:= by simp; omega
 unfold Rec.cs at lk lkn
 refine pushC_of_codeW (fn := Try.f36) (c := bodyC Try.f36) Try.func36 rfl ?_
 show codeW P 36 22 none _ _ _ _ _
 refine codeW_root ?_
 repeat' (first | ((with_reducible refine st1 ?_); (conv => whnf); (with_reducible refine ⟨?_⟩)) | ((with_reducible refine st_dw ?_ rfl rfl ?_ ?_); exact rfl; kernel_rfl; (conv => arg 5; whnf); (conv => arg 3; whnf)) | ((with_reducible refine retW_intro rfl ?_); (conv => arg 2; whnf)) | ((with_reducible first | refine iB ?_ ?_ | refine gWt ?_ ?_ | refine gWf ?_ ?_ | refine gXt ?_ ?_ | refine gXf ?_ ?_) <;> intro hb <;> (try simp only [hb])) | ((with_reducible show drawI _ _ _ _ _ _ _ _ _); first | ((with_reducible refine kI_rd ?_ ?_); exact rfl) | ((with_reducible apply kI_rg); exact rfl; exact rfl) | ((with_reducible refine kI_cv ?_ ?_ ?_); exact rfl; kernel_rfl) | ((with_reducible apply kI_al); exact rfl; exact rfl) | ((with_reducible refine kI_ex ?_ ?_ ?_ ?_ ?_); exact rfl; kernel_rfl; exact rfl) | ((with_reducible apply kI_eg); exact rfl; kernel_rfl; exact rfl) | ((with_reducible refine kI_nl ?_ ?_))) | ((with_reducible show eOk _ _ _ _ _ _); first | (exact eok_nil) | (refine ke_rd ?_ ?_ ?_; exact rfl) | (apply ke_rg; exact rfl; exact rfl) | (refine ke_cv ?_ ?_ ?_ ?_; exact rfl; kernel_rfl) | (apply ke_fl; exact rfl) | (apply ke_al; exact rfl; exact rfl)) | ((with_reducible refine freshIs_new ?_); kernel_rfl) | (simp only [B, xB, F, reduceLT, reduceLeDiff, reduceEqDiff, reduceAdd, reduceMul, reduceSub, ↓reduceIte, eq_self, bx, k51, k11, y0, y1, y2, y3, y4, @ex_lookup, lk, lkn, h2e, n1, n2, n3, Y0, Y1, Y2, Y3, Y4, z0, z1, z2, z3, z4, z5, z6, z7]))
 refine ((holdsC h2 c x.kv is).call P).mono P ?_
 rintro _ h3 ⟨rfl, o3⟩
 refine rT0 ?_
 exact ⟨rfl, (o1.t o2).t o3⟩
end
end Go.Proofs.Ytnedigoajoflaaa.M

namespace Go.Proofs.Ytnedigoajoflaaa.M
open Go Go.AX
noncomputable section
set_option maxRecDepth 100000
def opS (rev : Nat) (L0 : List Rec) (R : List Rec) (op : Op) : Res × List Rec :=
 if op.kind = 0 then (resS op (inV (rangeV rev L0 R op) op.key op.fin), R)
 else if op.kind = 1 then (putR op (getR op.key (atV (rev + 1) (L0 ++ R))), R ++ [mkR rev R (putKV rev op (getR op.key (atV (rev + 1) (L0 ++ R)))) false])
 else (dropR op (inV (atV (rev + 1) (L0 ++ R)) op.key op.fin), dropRs rev R (inV (atV (rev + 1) (L0 ++ R)) op.key op.fin))
def opsF (rev : Nat) (L0 : List Rec) (s : List Res × List Rec) (op : Op) : List Res × List Rec := (s.1 ++ [(opS rev L0 s.2 op).1], (opS rev L0 s.2 op).2)
def opsS (rev : Nat) (L0 : List Rec) (l : List Op) : List Res × List Rec := l.foldl (opsF rev L0) ([], [])
theorem opsS_s {rev : Nat} {L0 : List Rec} {l : List Op} {i : Nat} {x : Op} (h : l[i]? = some x) : opsS rev L0 (l.take (i + 1)) = opsF rev L0 (opsS rev L0 (l.take i)) x := by
 unfold opsS
 rw [List.take_add_one, h, List.foldl_append]; rfl
theorem sl_lt {h : H} {v : AV} {n : Nat} {cs : List AV} (s : SliceAt h v n cs) : ∀ c, blkOf v = some c → c < h.nx := by
 intro c e
 cases s with
 | cell b o n cap cs hb hc => cases e; exact hb
 | none => cases e
 | zero => cases e
theorem opsS_len (rev : Nat) (L0 : List Rec) (l : List Op) : (opsS rev L0 l).1.length = l.length := by
 have h : ∀ (l : List Op) (s : List Res × List Rec), (l.foldl (opsF rev L0) s).1.length = s.1.length + l.length := by
  intro l
  induction l with
  | nil => intro s; rfl
  | cons a l ih => intro s; rw [List.foldl_cons, ih]; unfold opsF; simp; omega
 unfold opsS
 rw [h]; simp
theorem opC (h0 : H) (bd bm ro base : Nat) (L0 : List Rec) (v0 : AV) (rev comp : Nat) (R : List Rec) (w : AV) (d : DoAt h0 bd bm ro base L0 v0 rev comp R w) (op : Op) (kd : Nat) (hk : op.kind = Int.ofNat kd) (h3 : kd < 3) (hr : rev ≤ 1000000) (hs : Short L0) (hsR : Short R) (hz : L0.length ≤ 200000) (hzR : R.length ≤ 200000) :
  PushC P (.enter (41 + kd) [.ptr bd 0, .agg op.cs] h0) fun v h' => ∃ k p w', OpPost h0 h' bd bm ro base L0 v0 rev comp w (opS rev L0 R op).2 (opS rev L0 R op).1 v w' k p := by
 match kd, h3 with
 | 0, _ =>
  have e : opS rev L0 R op = (resS op (inV (rangeV rev L0 R op) op.key op.fin), R):= by unfold opS; rw [if_pos (by rw [hk]; rfl)]
  rw [e]
  refine (rangeOfC h0 bd bm ro base L0 v0 rev comp R w d op hs hsR (by omega) (by omega)).mono P ?_
  rintro v h' ⟨k, o⟩
  exact ⟨k, _, _, o⟩
 | 1, _ =>
  have e : opS rev L0 R op = (putR op (getR op.key (atV (rev + 1) (L0 ++ R))), R ++ [mkR rev R (putKV rev op (getR op.key (atV (rev + 1) (L0 ++ R)))) false]):= by unfold opS; rw [if_neg (by rw [hk]; decide), if_pos (by rw [hk]; rfl)]
  rw [e]
  refine (putC h0 bd bm ro base L0 v0 rev comp R w d op hr (by omega)).mono P ?_
  rintro v h' ⟨p, w', o⟩
  exact ⟨_, p, w', o⟩
 | 2, _ =>
  have e : opS rev L0 R op = (dropR op (inV (atV (rev + 1) (L0 ++ R)) op.key op.fin), dropRs rev R (inV (atV (rev + 1) (L0 ++ R)) op.key op.fin)):= by unfold opS; rw [if_neg (by rw [hk]; decide), if_neg (by rw [hk]; decide)]
  rw [e]
  refine (dropC h0 bd bm ro base L0 v0 rev comp R w d op hr hs hsR hz hzR).mono P ?_
  rintro v h' ⟨p, w', o⟩
  exact ⟨_, p, w', o⟩
abbrev RV := Res × AV × AV
def RVcs (x : RV) : List AV := x.1.cs x.2.1 x.2.2
theorem RVlen (x : RV) : (RVcs x).length = 5 := rfl
structure RVok (h : H) (lo : Nat) (w rw : AV) (x : RV) : Prop where
 ks : SliceAt h x.2.1 x.1.kvs.length (x.1.kvs.flatMap KV.cs)
 ps : SliceAt h x.2.2 x.1.prev.length (x.1.prev.flatMap KV.cs)
 kb : ∀ c, blkOf x.2.1 = some c → lo ≤ c ∧ c < h.nx ∧ blkOf w ≠ some c ∧ blkOf rw ≠ some c
 pb : ∀ c, blkOf x.2.2 = some c → lo ≤ c ∧ c < h.nx ∧ blkOf w ≠ some c ∧ blkOf rw ≠ some c
def ansC (err rev comp : Nat) (tk : Bool) (rw : AV) : List AV := [.int .i64 (.ofNat err), .int .u64 (.ofNat rev), .int .u64 (.ofNat comp), .bool tk, rw, .int .u32 (.ofNat 0), .int .u64 (.ofNat 0), .int .u64 (.ofNat 0), .int .i64 (.ofNat 0)]
structure TxH (h0 h : H) (bd bm ro base b4 b5 b11 : Nat) (L0 : List Rec) (v0 : AV) (rev comp : Nat) (R : List Rec) (w : AV) (xs : List RV) (rw : AV) : Prop where
 d : DoAt h bd bm ro base L0 v0 rev comp R w
 k5 : cellAt h b5 0 = some (.ptr bd 0)
 f : CellsAt h b11 0 [.func 41 [.ptr bd 0] [], .func 42 [.ptr bd 0] [], .func 43 [.ptr bd 0] []]
 a : CellsAt h b4 0 (ansC 0 0 0 false rw)
 w4 : wrAt h b4 = true
 gr : Grows 5 base h rw xs.length (xs.flatMap RVcs)
 ok : ∀ x, x ∈ xs → RVok h base w rw x
 nw : ∀ c, blkOf rw = some c → blkOf w ≠ some c
 oo : Og h0 h []
 l0 : h0.nx ≤ b4
 l4 : b4 < ro
 l5 : bd < b5
 l11 : b5 < b11
 lb : b11 < base
theorem u108a : P.underlying 108 = some (.array 3 107):= by kernel_rfl
theorem ia108 (b i : Nat) (hi : i < 3) : indexAddrA P 108 (.ptr b 0) (.int .i64 (.ofNat i)) = some (.ptr b i) := by
 have hb : Nat.blt i 3 = true := Nat.ble_eq_true_of_le hi
 unfold indexAddrA
 simp only [u108a, hb, show okT P 107 = true from by kernel_rfl, Bool.and_true, show P.cellsOf 107 = 1 from by kernel_rfl, Nat.mul_one, Nat.zero_add]
theorem cfK {kd : Nat} (h3 : kd < 3) (first cap args : List AV) (h : H) : callV P (.func (41 + kd) first cap) args h = .enter (41 + kd) (first ++ args ++ cap) h := by
 match kd, h3 with
 | 0, _ => exact callV_func 41 (by kernel_rfl) first cap args
 | 1, _ => exact callV_func 42 (by kernel_rfl) first cap args
 | 2, _ => exact callV_func 43 (by kernel_rfl) first cap args
theorem TxH.fk {h0 h : H} {bd bm ro base b4 b5 b11 : Nat} {L0 : List Rec} {v0 : AV} {rev comp : Nat} {R : List Rec} {w : AV} {xs : List RV} {rw : AV} (t : TxH h0 h bd bm ro base b4 b5 b11 L0 v0 rev comp R w xs rw) {kd : Nat} (h3 : kd < 3) : cellAt h b11 kd = some (.func (41 + kd) [.ptr bd 0] []) := by
 obtain ⟨f0, f1, f2⟩ := t.f.u3
 match kd, h3 with
 | 0, _ => exact f0
 | 1, _ => exact f1
 | 2, _ => exact f2
theorem DoAt.lt {h : H} {bd bm ro base rev comp : Nat} {L0 R : List Rec} {v0 w : AV} (d : DoAt h bd bm ro base L0 v0 rev comp R w) : bd < h.nx:= by have := d.l3; have := d.l4; omega
theorem RVok.move {h h' : H} {lo : Nat} {w rw w' rw' : AV} {x : RV} (k : RVok h lo w rw x) (hx : h.nx ≤ h'.nx) (e : ∀ c, lo ≤ c → c < h.nx → blkOf w ≠ some c → blkOf rw ≠ some c → h'.t.get c = h.t.get c ∧ blkOf w' ≠ some c ∧ blkOf rw' ≠ some c) : RVok h' lo w' rw' x :=
  ⟨k.ks.move hx (fun c q => (e c (k.kb c q).1 (k.kb c q).2.1 (k.kb c q).2.2.1 (k.kb c q).2.2.2).1), k.ps.move hx (fun c q => (e c (k.pb c q).1 (k.pb c q).2.1 (k.pb c q).2.2.1 (k.pb c q).2.2.2).1),
   fun c q => ⟨(k.kb c q).1, Nat.lt_of_lt_of_le (k.kb c q).2.1 hx, (e c (k.kb c q).1 (k.kb c q).2.1 (k.kb c q).2.2.1 (k.kb c q).2.2.2).2⟩, fun c q => ⟨(k.pb c q).1, Nat.lt_of_lt_of_le (k.pb c q).2.1 hx, (e c (k.pb c q).1 (k.pb c q).2.1 (k.pb c q).2.2.1 (k.pb c q).2.2.2).2⟩⟩
structure TyI (h0 : H) (bd bm ro base b4 b5 b11 : Nat) (L0 : List Rec) (v0 : AV) (rev comp : Nat) (tk : Bool) (l : List Op) (va : AV) (m : Nat) (ds : List Nat) (tm : T AV) (h : H) (i : Nat) (w : AV) (xs : List RV) (rw : AV) : Prop where
 ds : ds = []
 nn : m = l.length - i
 ii : i ≤ l.length
 t0 : tm.get 0 = some (.ptr bm 0)
 t4 : tm.get 4 = some (.ptr b4 0)
 t5 : tm.get 5 = some (.ptr b5 0)
 t7 : tm.get 7 = some (.bool tk)
 t11 : tm.get 11 = some (.ptr b11 0)
 t74 : tm.get 74 = some va
 t75 : tm.get 75 = some (.int .i64 (.ofNat l.length))
 t76 : tm.get 76 = some (.int .i64 (.ofNat i))
 hx : xs.map (·.1) = (opsS rev L0 (l.take i)).1
 hh : TxH h0 h bd bm ro base b4 b5 b11 L0 v0 rev comp (opsS rev L0 (l.take i)).2 w xs rw
set_option maxHeartbeats 4000000 in
theorem opsLoop (h0 h1 : H) (bd bm ro base b4 b5 b11 : Nat) (L0 : List Rec) (v0 : AV) (rev comp : Nat) (tk : Bool) (l : List Op) (va : AV) (hh : TxH h0 h1 bd bm ro base b4 b5 b11 L0 v0 rev comp [] .nilslice [] .nilslice) (sl : SliceAt h0 va l.length (l.flatMap Op.cs)) (hz : l.length ≤ 1000000) (hr : rev ≤ 1000000) (hs : Short L0) (hzL : L0.length ≤ 200000)
  (hB : ∀ i, i ≤ l.length → Short (opsS rev L0 (l.take i)).2 ∧ (opsS rev L0 (l.take i)).2.length ≤ 200000) (hk : ∀ op, op ∈ l → ∃ kd, op.kind = Int.ofNat kd ∧ kd < 3) (hbm : bm < b4) (hv0 : ∀ c, blkOf v0 = some c → c < b4)
  (tm : T AV) (t0 : tm.get 0 = some (.ptr bm 0)) (t4 : tm.get 4 = some (.ptr b4 0)) (t5 : tm.get 5 = some (.ptr b5 0)) (t7 : tm.get 7 = some (.bool tk)) (t11 : tm.get 11 = some (.ptr b11 0)) (t74 : tm.get 74 = some va) (t75 : tm.get 75 = some (.int .i64 (.ofNat l.length))) (t76 : tm.get 76 = some (.int .i64 (.ofNat 0))) (K : KQ)
  (hK : ∀ tm2 h2 w xs rw, tm2.get 0 = some (.ptr bm 0) → tm2.get 4 = some (.ptr b4 0) → tm2.get 5 = some (.ptr b5 0) → tm2.get 7 = some (.bool tk) → xs.map (·.1) = (opsS rev L0 l).1 → TxH h0 h2 bd bm ro base b4 b5 b11 L0 v0 rev comp (opsS rev L0 l).2 w xs rw → K .norm [] tm2 h2) :
  codeW P 20 121 none (codeI (bodyC Try.f20) [1, 0, 1, 1, 1, 1, 1, 1, 1, 1, 1, 1]) [] tm h1 K := by
 refine rN0 ?_
 refine st_loop (fun m ds tm h => ∃ i w xs rw, TyI h0 bd bm ro base b4 b5 b11 L0 v0 rev comp tk l va m ds tm h i w xs rw) l.length rfl ⟨0, .nilslice, [], .nilslice, rfl, rfl, Nat.zero_le _, t0, t4, t5, t7, t11, t74, t75, t76, rfl, hh⟩ (fun m ds tm h hI => ?_)
 clear t0 t4 t5 t7 t11 t74 t75 t76 hh
 obtain ⟨i, w, xs, rw_, rfl, rfl, ii, t0, t4, t5, t7, t11, t74, t75, t76, hxs, hh⟩ := hI
 by_cases hi : i < l.length
 ·have di : decide (i < l.length) = true := decide_eq_true hi
  have lt1 : (i < l.length) = True:= by simp [hi]
  obtain ⟨x, hx⟩ : ∃ x, l[i]? = some x := ⟨_, List.getElem?_eq_getElem hi⟩
  have slh := SliceAt.only hh.oo.1 sl (fun _ _ => by simp)
  obtain ⟨bv, ov, cv, rfl, hbv, -⟩ := slh.place (by omega)
  obtain ⟨q0, q1, q2, q3, q4, q5, q6, q7, q8⟩ := Op.at slh hx
  obtain ⟨h2, h2e, o2, x2, y0, y1, y2, y3, y4, y5, y6, y7, y8⟩ := opBox h x
  have w1 : wrapF .i64 (Int.ofNat i + Int.ofNat 1) = Int.ofNat (i + 1) := i64_add (by omega)
  obtain ⟨kd, hkd, h3⟩ := hk x (List.mem_of_getElem? hx)
  have g0 := hh.oo.1.1
  have g1 := hh.l0
  have g4 := hh.l4
  have g5 := hh.l5
  have g11 := hh.l11
  have gb := hh.lb
  have gd2 := hh.d.l2
  have gd3 := hh.d.l3
  have gd4 := hh.d.l4
  have f2 := kc (hh.fk h3) o2 (by omega) (by simp)
  have ia := ia108 b11 kd h3
  have cf := @cfK kd h3
  have A2 := gC hh.a o2 (by omega) (by simp)
  obtain ⟨a0, a1, a2, a3, a4, a5, a6, a7, a8⟩ := A2.u9
  rw [hkd] at y0
  obtain ⟨hsR, hzR⟩ := hB i ii
  have gro := hh.gr.one
  obtain ⟨R, hR⟩ : ∃ R, R = (opsS rev L0 (l.take i)).2 := ⟨_, rfl⟩
  have hss := opsS_s (rev := rev) (L0 := L0) hx
  rw [← hR] at hh hsR hzR
  repeat' (first | ((with_reducible refine st1 ?_); (conv => whnf); (with_reducible refine ⟨?_⟩)) | ((with_reducible refine st_dp ord20_0 ?_ rfl rfl ?_); exact rfl; (conv => arg 4; whnf); (conv => arg 3; whnf)) | ((with_reducible refine st_dw ?_ rfl rfl ?_ ?_); exact rfl; kernel_rfl; (conv => arg 5; whnf); (conv => arg 3; whnf)) | ((with_reducible refine retW_intro rfl ?_); (conv => arg 2; whnf)) | ((with_reducible first | refine iB ?_ ?_ | refine gWt ?_ ?_ | refine gWf ?_ ?_ | refine gXt ?_ ?_ | refine gXf ?_ ?_) <;> intro hb <;> (try simp only [hb])) | ((with_reducible show drawP _ _ _ _ _ _ _ _ _); first | ((with_reducible apply kP_rd); exact rfl; exact rfl) | ((with_reducible apply kP_rg); exact rfl; exact rfl; exact rfl) | ((with_reducible apply kP_cv); exact rfl; exact rfl; kernel_rfl) | ((with_reducible apply kP_al); exact rfl; exact rfl; exact rfl) | ((with_reducible apply kP_fl); exact rfl; exact rfl; exact rfl) | ((with_reducible apply kP_ex); exact rfl; exact rfl; kernel_rfl; exact rfl) | ((with_reducible apply kP_eg); exact rfl; exact rfl; kernel_rfl; exact rfl) | ((with_reducible refine kP_nl ?_ ?_))) | ((with_reducible show drawI _ _ _ _ _ _ _ _ _); first | ((with_reducible refine kI_rd ?_ ?_); exact rfl) | ((with_reducible apply kI_rg); exact rfl; exact rfl) | ((with_reducible refine kI_cv ?_ ?_ ?_); exact rfl; kernel_rfl) | ((with_reducible apply kI_al); exact rfl; exact rfl) | ((with_reducible refine kI_ex ?_ ?_ ?_ ?_ ?_); exact rfl; kernel_rfl; exact rfl) | ((with_reducible apply kI_eg); exact rfl; kernel_rfl; exact rfl) | ((with_reducible refine kI_nl ?_ ?_))) | ((with_reducible show eOk _ _ _ _ _ _); first | (exact eok_nil) | (refine ke_rd ?_ ?_ ?_; exact rfl) | (apply ke_rg; exact rfl; exact rfl) | (refine ke_cv ?_ ?_ ?_ ?_; exact rfl; kernel_rfl) | (apply ke_fl; exact rfl) | (apply ke_al; exact rfl; exact rfl)) | ((with_reducible refine freshIs_new ?_); kernel_rfl) | (simp only [B, xB, F, reduceLT, reduceLeDiff, reduceEqDiff, reduceAdd, reduceMul, reduceSub, ↓reduceIte, eq_self, t0, t4, t5, t7, t11, t74, t75, t76, di, lt1, q0, q1, q2, q3, q4, q5, q6, q7, q8, h2e, y0, y1, y2, y3, y4, y5, y6, y7, y8, a4, ia, f2, cf]))
  have hop := opC h2 bd bm ro base L0 v0 rev comp R w (hh.d.keep o2) x kd hkd h3 hr hs hsR hzL hzR
  unfold Op.cs at hop
  rw [hkd] at hop
  refine (hop.call P).mono P ?_
  rintro v2 h4 ⟨k, p, w3, o⟩
  obtain ⟨r, hre⟩ : ∃ r, r = (opS rev L0 R x).1 := ⟨_, rfl⟩
  obtain ⟨R2, hR2⟩ : ∃ R2, R2 = (opS rev L0 R x).2 := ⟨_, rfl⟩
  rw [← hre, ← hR2] at o
  obtain ⟨hv, oks, ops_, okb, opb, oko, opo, od, odk⟩ := o
  unfold Res.cs at hv
  subst hv
  have x4 := odk.nx
  have hwb : ∀ c, blkOf w = some c → base ≤ c ∧ c < h.nx := fun c e => hh.d.gr.base e
  have hrb : ∀ c, blkOf rw_ = some c → base ≤ c ∧ c < h.nx := fun c e => hh.gr.base e
  have kB : ∀ c, c < base → c ≠ bd → c ≠ ro → h4.t.get c = h2.t.get c := fun c hc n1 n2 => odk.old c (by omega) n1 n2 (fun e => by have := hwb c e; omega)
  have kN : ∀ c, c < h2.nx → base ≤ c → blkOf w ≠ some c → h4.t.get c = h2.t.get c := fun c hc hb hn => odk.old c hc (by omega) (by omega) hn
  have kX : h4.t.get h.nx = h2.t.get h.nx := kN h.nx (by omega) (by omega) (fun e => by have := hwb _ e; omega)
  have z : ∀ j, cellAt h4 h.nx j = cellAt h2 h.nx j := fun j => cellAt_of_get kX _
  rw [← z] at y0 y1 y2 y3 y4 y5 y6 y7 y8
  have A4 := A2.of_get (kB b4 (by omega) (by omega) (by omega))
  obtain ⟨c0, c1, c2, c3, c4, c5, c6, c7, c8⟩ := A4.u9
  have w44 : wrAt h4 b4 = true:= by rw [wrAt_of_get (kB b4 (by omega) (by omega) (by omega)), wrAt_of_get (o2.1.2 b4 (by omega) (by simp))]; exact hh.w4
  have f4 : cellAt h4 b11 kd = some (.func (41 + kd) [.ptr bd 0] []):= by rw [cellAt_of_get (kB b11 (by omega) (by omega) (by omega))]; exact f2
  obtain ⟨h5, h5e⟩ : ∃ h5, h5 = h4.newCells 72 [k, .bool r.more, .int .i64 (.ofNat r.cnt), .int .i64 (.ofNat r.del), p] := ⟨_, rfl⟩
  have o5 : Og h4 h5 []:= by rw [h5e]; exact (Og.refl _ _).new _ _
  have x5 : h5.nx = h4.nx + 1:= by rw [h5e]; rfl
  have hrow : h5.row h4.nx 0 5 = some [k, .bool r.more, .int .i64 (.ofNat r.cnt), .int .i64 (.ofNat r.del), p]:= by rw [h5e]; exact (CellsAt.new h4 72 [k, .bool r.more, .int .i64 (.ofNat r.cnt), .int .i64 (.ofNat r.del), p]).row (by simp)
  have kR : ∀ c, blkOf rw_ = some c → h5.t.get c = h.t.get c := fun c e => by
   have := hrb c e
   rw [o5.1.2 c (by omega) (by simp), kN c (by omega) this.1 (hh.nw c e), o2.1.2 c this.2 (by simp)]
  have gr5 : Grows 5 base h5 rw_ _ _ := hh.gr.of_get (by omega) kR
  have hxl : xs.length = i := by
   have e := congrArg List.length hxs
   rw [List.length_map] at e
   rw [e, opsS_len, List.length_take]; omega
  have c45 := kc c4 o5 (by omega) (by simp)
  repeat' (first | ((with_reducible refine st1 ?_); (conv => whnf); (with_reducible refine ⟨?_⟩)) | ((with_reducible refine st_dp ord20_0 ?_ rfl rfl ?_); exact rfl; (conv => arg 4; whnf); (conv => arg 3; whnf)) | ((with_reducible refine st_dw ?_ rfl rfl ?_ ?_); exact rfl; kernel_rfl; (conv => arg 5; whnf); (conv => arg 3; whnf)) | ((with_reducible refine retW_intro rfl ?_); (conv => arg 2; whnf)) | ((with_reducible first | refine iB ?_ ?_ | refine gWt ?_ ?_ | refine gWf ?_ ?_ | refine gXt ?_ ?_ | refine gXf ?_ ?_) <;> intro hb <;> (try simp only [hb])) | ((with_reducible show drawP _ _ _ _ _ _ _ _ _); first | ((with_reducible apply kP_rd); exact rfl; exact rfl) | ((with_reducible apply kP_rg); exact rfl; exact rfl; exact rfl) | ((with_reducible apply kP_cv); exact rfl; exact rfl; kernel_rfl) | ((with_reducible apply kP_al); exact rfl; exact rfl; exact rfl) | ((with_reducible apply kP_fl); exact rfl; exact rfl; exact rfl) | ((with_reducible apply kP_ex); exact rfl; exact rfl; kernel_rfl; exact rfl) | ((with_reducible apply kP_eg); exact rfl; exact rfl; kernel_rfl; exact rfl) | ((with_reducible refine kP_nl ?_ ?_))) | ((with_reducible show drawI _ _ _ _ _ _ _ _ _); first | ((with_reducible refine kI_rd ?_ ?_); exact rfl) | ((with_reducible apply kI_rg); exact rfl; exact rfl) | ((with_reducible refine kI_cv ?_ ?_ ?_); exact rfl; kernel_rfl) | ((with_reducible apply kI_al); exact rfl; exact rfl) | ((with_reducible refine kI_ex ?_ ?_ ?_ ?_ ?_); exact rfl; kernel_rfl; exact rfl) | ((with_reducible apply kI_eg); exact rfl; kernel_rfl; exact rfl) | ((with_reducible refine kI_nl ?_ ?_))) | ((with_reducible show eOk _ _ _ _ _ _); first | (exact eok_nil) | (refine ke_rd ?_ ?_ ?_; exact rfl) | (apply ke_rg; exact rfl; exact rfl) | (refine ke_cv ?_ ?_ ?_ ?_; exact rfl; kernel_rfl) | (apply ke_fl; exact rfl) | (apply ke_al; exact rfl; exact rfl)) | ((with_reducible refine freshIs_new ?_); kernel_rfl) | (simp only [B, xB, F, reduceLT, reduceLeDiff, reduceEqDiff, reduceAdd, reduceMul, reduceSub, ↓reduceIte, eq_self, t4, t11, c45, gro, oko, opo, y0, y1, y2, y3, y4, y5, y6, y7, y8, c4, ia, f4, cf, ← h5e, hrow]))
  refine exW_growsG (m := 1) (new := RVcs (r, k, p)) gr5 (by omega) (by omega) (by omega) rfl (by omega) (fun v7 h7 g7 x7 old7 bl7 gg7 => ?_)
  have g7o := g7.one
  have g7c := g7.cells
  have k7 : ∀ c, c < h5.nx → blkOf rw_ ≠ some c → h7.t.get c = h5.t.get c := old7
  have nb : ∀ c, c < base → blkOf rw_ ≠ some c := fun c hc e => by have := hrb c e; omega
  have A7 : CellsAt h7 b4 0 (ansC 0 0 0 false rw_) := (A4.of_get (o5.1.2 b4 (by omega) (by simp))).of_get (k7 b4 (by omega) (nb b4 (by omega)))
  obtain ⟨e0, e1, e2, e3, e4, e5, e6, e7, e8⟩ := A7.u9
  have w47 : wrAt h7 b4 = true:= by rw [wrAt_of_get (k7 b4 (by omega) (nb b4 (by omega))), wrAt_of_get (o5.1.2 b4 (by omega) (by simp))]; exact w44
  obtain ⟨h8, h8e⟩ : ∃ h8, h8 = h7.sts b4 4 [v7] := ⟨_, rfl⟩
  have A8 := A7.put w47 (j := 4) (by simp [ansC]) v7
  rw [Nat.zero_add, ← h8e] at A8
  have k8 : ∀ c, c ≠ b4 → h8.t.get c = h7.t.get c := fun c hc => by rw [h8e, get_sts _ _ _ _ hc]
  have x8 : h8.nx = h7.nx:= by rw [h8e, nx_sts]
  repeat' (first | ((with_reducible refine st1 ?_); (conv => whnf); (with_reducible refine ⟨?_⟩)) | ((with_reducible refine st_dp ord20_0 ?_ rfl rfl ?_); exact rfl; (conv => arg 4; whnf); (conv => arg 3; whnf)) | ((with_reducible refine st_dw ?_ rfl rfl ?_ ?_); exact rfl; kernel_rfl; (conv => arg 5; whnf); (conv => arg 3; whnf)) | ((with_reducible refine retW_intro rfl ?_); (conv => arg 2; whnf)) | ((with_reducible first | refine iB ?_ ?_ | refine gWt ?_ ?_ | refine gWf ?_ ?_ | refine gXt ?_ ?_ | refine gXf ?_ ?_) <;> intro hb <;> (try simp only [hb])) | ((with_reducible show drawP _ _ _ _ _ _ _ _ _); first | ((with_reducible apply kP_rd); exact rfl; exact rfl) | ((with_reducible apply kP_rg); exact rfl; exact rfl; exact rfl) | ((with_reducible apply kP_cv); exact rfl; exact rfl; kernel_rfl) | ((with_reducible apply kP_al); exact rfl; exact rfl; exact rfl) | ((with_reducible apply kP_fl); exact rfl; exact rfl; exact rfl) | ((with_reducible apply kP_ex); exact rfl; exact rfl; kernel_rfl; exact rfl) | ((with_reducible apply kP_eg); exact rfl; exact rfl; kernel_rfl; exact rfl) | ((with_reducible refine kP_nl ?_ ?_))) | ((with_reducible show drawI _ _ _ _ _ _ _ _ _); first | ((with_reducible refine kI_rd ?_ ?_); exact rfl) | ((with_reducible apply kI_rg); exact rfl; exact rfl) | ((with_reducible refine kI_cv ?_ ?_ ?_); exact rfl; kernel_rfl) | ((with_reducible apply kI_al); exact rfl; exact rfl) | ((with_reducible refine kI_ex ?_ ?_ ?_ ?_ ?_); exact rfl; kernel_rfl; exact rfl) | ((with_reducible apply kI_eg); exact rfl; kernel_rfl; exact rfl) | ((with_reducible refine kI_nl ?_ ?_))) | ((with_reducible show eOk _ _ _ _ _ _); first | (exact eok_nil) | (refine ke_rd ?_ ?_ ?_; exact rfl) | (apply ke_rg; exact rfl; exact rfl) | (refine ke_cv ?_ ?_ ?_ ?_; exact rfl; kernel_rfl) | (apply ke_fl; exact rfl) | (apply ke_al; exact rfl; exact rfl)) | ((with_reducible refine freshIs_new ?_); kernel_rfl) | (simp only [B, xB, F, reduceLT, reduceLeDiff, reduceEqDiff, reduceAdd, reduceMul, reduceSub, ↓reduceIte, eq_self, t4, t11, g7o, g7c, e4, w47, ← h8e, t76, w1]))
  have fz : opsS rev L0 (l.take (i + 1)) = ((opsS rev L0 (l.take i)).1 ++ [r], R2) := by
   rw [hss]; unfold opsF; rw [← hR, ← hre, ← hR2]
  -- what stays, from the call on
  have kk : ∀ c, c < h4.nx → c ≠ b4 → blkOf rw_ ≠ some c → h8.t.get c = h4.t.get c := fun c hc n1 n2 => by rw [k8 c n1, k7 c (by omega) n2, o5.1.2 c hc (by simp)]
  have w3b : ∀ c, blkOf w3 = some c → blkOf w = some c ∨ h2.nx ≤ c := odk.nw
  have w3l : ∀ c, blkOf w3 = some c → c < h4.nx := fun c e => (od.gr.base e).2
  have w3r : ∀ c, blkOf w3 = some c → blkOf rw_ ≠ some c := fun c e e2 => by
   rcases w3b c e with q | q
   ·exact hh.nw c e2 q
   ·have := hrb c e2; omega
  have d8 : DoAt h8 bd bm ro base L0 v0 rev comp R2 w3 := by
   have g : ∀ c, c < base → c ≠ b4 → h8.t.get c = h4.t.get c := fun c hc n => kk c (by omega) n (nb c hc)
   exact ⟨by rw [cellAt_of_get (g bd (by omega) (by omega))]; exact od.c0, by rw [cellAt_of_get (g bd (by omega) (by omega))]; exact od.c1, by rw [cellAt_of_get (g bd (by omega) (by omega))]; exact od.c2, by rw [wrAt_of_get (g bd (by omega) (by omega))]; exact od.wr, od.md.keep (by omega) (g bm (by have := od.l1; omega) (by have := od.md.lt; have := hbm; omega)) (fun c e => g c (by have := od.nv c e; omega) (by have := hv0 c e; omega)), od.mp.get (by omega) (g ro (by omega) (by omega)), od.gr.of_get (by omega) (fun c e => kk c (w3l c e) (by have := od.gr.base e; omega) (w3r c e)), od.l1, od.l2, od.l3, by omega, od.nv⟩
  refine ⟨l.length - (i + 1), by omega, i + 1, w3, xs ++ [(r, k, p)], v7, rfl, rfl, by omega, by exact sT, by exact sT, by exact sT, by exact sT, by exact sT, by exact sT, by exact sT, by exact sT, by rw [fz, List.map_append, hxs]; rfl, ?_⟩
  rw [fz]
  refine ⟨d8, ?_, ?_, A8, by rw [h8e, wrAt_sts]; exact w47, ?_, fun y hy => ?_, fun c e e2 => ?_, ⟨⟨by omega, fun c hc _ => ?_⟩, by rw [h8e, g_sts, gg7, o5.2, odk.g, o2.2, hh.oo.2]⟩, g1, g4, g5, g11, gb⟩
  ·rw [cellAt_of_get (kk b5 (by omega) (by omega) (nb b5 (by omega))), cellAt_of_get (kB b5 (by omega) (by omega) (by omega)), cellAt_of_get (o2.1.2 b5 (by omega) (by simp))]; exact hh.k5
  ·exact ((hh.f.of_get (o2.1.2 b11 (by omega) (by simp))).of_get (kB b11 (by omega) (by omega) (by omega))).of_get (kk b11 (by omega) (by omega) (nb b11 (by omega)))
  ·rw [List.length_append, List.flatMap_append, List.flatMap_singleton]
   exact g7.of_get (by omega) (fun c e => k8 c (by have := g7.base e; omega))
  ·rcases List.mem_append.1 hy with q | q
   ·refine (hh.ok y q).move (by omega) (fun c hc hc2 n1 n2 => ⟨?_, fun e => ?_, fun e => ?_⟩)
    ·rw [kk c (by omega) (by omega) n2, kN c (by omega) hc n1, o2.1.2 c hc2 (by simp)]
    ·rcases w3b c e with q | q
     ·exact n1 q
     ·omega
    ·rw [bl7] at e; cases e; omega
   ·rw [List.mem_singleton] at q; subst q
    have kl : ∀ c, blkOf k = some c → c < h4.nx := sl_lt oks
    have pl : ∀ c, blkOf p = some c → c < h4.nx := sl_lt ops_
    have nr : ∀ c, h2.nx ≤ c → blkOf rw_ ≠ some c := fun c hc e => by have := hrb c e; omega
    refine ⟨oks.move (by omega) (fun c e => kk c (kl c e) (by have := okb c e; omega) (nr c (okb c e).1)), ops_.move (by omega) (fun c e => kk c (pl c e) (by have := opb c e; omega) (nr c (opb c e).1)), fun c e => ⟨by have := okb c e; omega, by have := kl c e; omega, (okb c e).2, fun e2 => ?_⟩, fun c e => ⟨by have := opb c e; omega, by have := pl c e; omega, (opb c e).2, fun e2 => ?_⟩⟩
    ·rw [bl7] at e2; cases e2; have := kl _ e; omega
    ·rw [bl7] at e2; cases e2; have := pl _ e; omega
  ·rw [bl7] at e; cases e; have := w3l _ e2; omega
  ·rw [kk c (by omega) (by omega) (nb c (by omega)), kB c (by omega) (by omega) (by omega), o2.1.2 c (by omega) (by simp)]; exact hh.oo.1.2 c hc (by simp)
 ·have di : decide (i < l.length) = false := decide_eq_false hi
  obtain rfl : i = l.length:= by omega
  rw [List.take_length] at hxs hh
  refine rN ?_ (V t0<|V t4<|V t5<|V t7<|V t11<|V t74<|V t75<|V t76<|di)
  exact hK _ _ w xs rw_ (by exact sT) (by exact sT) (by exact sT) (by exact sT) hxs hh
end
end Go.Proofs.Ytnedigoajoflaaa.M

namespace Go.Proofs.Ytnedigoajoflaaa.M
open Go Go.AX
noncomputable section
set_option maxRecDepth 100000
def firstW (rev comp : Nat) : List Op → Nat
 | [] => 0
 | o :: l => if whenO o rev comp = 0 then firstW rev comp l else whenO o rev comp
theorem firstW_ok {rev comp : Nat} : ∀ {l : List Op}, (∀ (i : Nat) o, l[i]? = some o → whenO o rev comp = 0) → firstW rev comp l = 0
 | [], _ => rfl
 | o :: l, h => by
  unfold firstW
  rw [if_pos (h 0 o rfl)]
  exact firstW_ok fun i x hx => h (i + 1) x (by simpa using hx)
theorem firstW_at {rev comp : Nat} : ∀ {l : List Op} {i : Nat} {o : Op}, l[i]? = some o → (∀ j x, j < i → l[j]? = some x → whenO x rev comp = 0) → whenO o rev comp ≠ 0 → firstW rev comp l = whenO o rev comp
 | [], i, o, h, _, _ => by simp at h
 | a :: l, 0, o, h, _, hn => by
  simp at h; subst h
  unfold firstW; rw [if_neg hn]
 | a :: l, i + 1, o, h, hj, hn => by
  unfold firstW
  rw [if_pos (hj 0 a (by omega) rfl)]
  exact firstW_at (i := i) (by simpa using h) (fun j x h1 h2 => hj (j + 1) x (by omega) (by simpa using h2)) hn
structure TwH (h0 h : H) (bm b4 : Nat) (rev comp : Nat) : Prop where
 m1 : cellAt h bm 1 = some (.int .u64 (.ofNat rev))
 m2 : cellAt h bm 2 = some (.int .u64 (.ofNat comp))
 a : CellsAt h b4 0 (ansC 0 0 0 false .nilslice)
 w4 : wrAt h b4 = true
 oo : Og h0 h [b4]
theorem TwH.keep {h0 h h' : H} {bm b4 rev comp : Nat} (t : TwH h0 h bm b4 rev comp) (o : Og h h' []) (hb : bm < h.nx) (h4 : b4 < h.nx) : TwH h0 h' bm b4 rev comp :=
 ⟨kc t.m1 o hb (by simp), kc t.m2 o hb (by simp), gC t.a o h4 (by simp), kw t.w4 o h4 (by simp), ⟨⟨Nat.le_trans t.oo.1.1 o.1.1, fun c hc hn => (o.1.2 c (Nat.lt_of_lt_of_le hc t.oo.1.1) (by simp)).trans (t.oo.1.2 c hc hn)⟩, o.2.trans t.oo.2⟩⟩
structure TzI (h0 : H) (bm b4 b5 : Nat) (rev comp : Nat) (tk : Bool) (l : List Op) (va : AV) (m : Nat) (ds : List Nat) (tm : T AV) (h : H) (i : Nat) : Prop where
 ds : ds = []
 nn : m = l.length - i
 ii : i ≤ l.length
 t0 : tm.get 0 = some (.ptr bm 0)
 t4 : tm.get 4 = some (.ptr b4 0)
 t5 : tm.get 5 = some (.ptr b5 0)
 t7 : tm.get 7 = some (.bool tk)
 t8 : tm.get 8 = some va
 t45 : tm.get 45 = some va
 t46 : tm.get 46 = some (.int .i64 (.ofNat l.length))
 t47 : tm.get 47 = some (.int .i64 (.ofNat i))
 no : ∀ j x, j < i → l[j]? = some x → whenO x rev comp = 0
 hh : TwH h0 h bm b4 rev comp
set_option maxHeartbeats 4000000 in
theorem whenLoop (h0 : H) (bm b4 b5 : Nat) (rev comp : Nat) (tk : Bool) (l : List Op) (va : AV) (hh : TwH h0 h0 bm b4 rev comp) (sl : SliceAt h0 va l.length (l.flatMap Op.cs)) (hz : l.length ≤ 1000000) (hb : bm < h0.nx) (h4 : b4 < h0.nx) (nb : ∀ c, blkOf va = some c → c ≠ b4) (hne : bm ≠ b4)
  (tm : T AV) (t0 : tm.get 0 = some (.ptr bm 0)) (t4 : tm.get 4 = some (.ptr b4 0)) (t5 : tm.get 5 = some (.ptr b5 0)) (t7 : tm.get 7 = some (.bool tk)) (t8 : tm.get 8 = some va) (K : KQ)
  (hR : ∀ tm2 h2, tm2.get 4 = some (.ptr b4 0) → Og h0 h2 [b4] → CellsAt h2 b4 0 (ansC (firstW rev comp l) 0 0 false .nilslice) → firstW rev comp l ≠ 0 → K .ret [] tm2 h2)
  (hN : ∀ tm2 h2, tm2.get 0 = some (.ptr bm 0) → tm2.get 4 = some (.ptr b4 0) → tm2.get 5 = some (.ptr b5 0) → tm2.get 7 = some (.bool tk) → tm2.get 8 = some va → TwH h0 h2 bm b4 rev comp → firstW rev comp l = 0 → K .norm [] tm2 h2) :
  codeW P 20 121 none (codeI (bodyC Try.f20) [0, 1, 1, 1, 1, 1, 1, 1, 1]) [] tm h0 K := by
 have hlen := sl.len (P := P) u29a
 have vo := sl_one sl
 refine rN ?_ (V t0<|V t4<|V t5<|V t7<|V t8<|V hlen<|vo)
 refine st_loop (fun m ds tm h => ∃ i, TzI h0 bm b4 b5 rev comp tk l va m ds tm h i) l.length rfl ⟨0, rfl, rfl, Nat.zero_le _, by exact sT, by exact sT, by exact sT, by exact sT, by exact sT, by exact sT, by exact sT, by exact sT, fun j x hj => absurd hj (by omega), hh⟩ (fun m ds tm h hI => ?_)
 clear t0 t4 t5 t7 t8 hh
 obtain ⟨i, rfl, rfl, ii, t0, t4, t5, t7, t8, t45, t46, t47, no, hh⟩ := hI
 by_cases hi : i < l.length
 ·have di : decide (i < l.length) = true := decide_eq_true hi
  have lt1 : (i < l.length) = True:= by simp [hi]
  obtain ⟨x, hx⟩ : ∃ x, l[i]? = some x := ⟨_, List.getElem?_eq_getElem hi⟩
  have g0 := hh.oo.1.1
  have slh := SliceAt.only hh.oo.1 sl (fun c e => by simp; exact nb c e)
  obtain ⟨bv, ov, cv, rfl, hbv, -⟩ := slh.place (by omega)
  obtain ⟨q0, q1, q2, q3, q4, q5, q6, q7, q8⟩ := Op.at slh hx
  obtain ⟨h2, h2e, o2, x2, y0, y1, y2, y3, y4, y5, y6, y7, y8⟩ := opBox h x
  have w1 : wrapF .i64 (Int.ofNat i + Int.ofNat 1) = Int.ofNat (i + 1) := i64_add (by omega)
  have H2 := hh.keep o2 (by omega) (by omega)
  have m1 := H2.m1
  have m2 := H2.m2
  refine rT ?_ (V t0<|V t4<|V t5<|V t7<|V t8<|V t45<|V t46<|V t47<|V di<|V lt1<|V q0<|V q1<|V q2<|V q3<|V q4<|V q5<|V q6<|V q7<|V q8<|V h2e<|V y0<|V y1<|V y2<|V y3<|V y4<|V y5<|V y6<|V y7<|V y8<|V m1<|m2)
  refine ((whenC h2 x rev comp).call P).mono P ?_
  rintro _ h3 ⟨rfl, o3⟩
  have x3 := o3.1.1
  have H3 := H2.keep o3 (by omega) (by omega)
  have M1 := H3.m1
  have M2 := H3.m2
  have w43 := H3.w4
  obtain ⟨a0, a1, a2, a3, a4, a5, a6, a7, a8⟩ := H3.a.u9
  have Y3 := gC (show CellsAt h2 h.nx 0 x.cs from .m9 y0 y1 y2 y3 y4 y5 y6 y7 y8) o3 (by omega) (by simp)
  obtain ⟨z0, z1, z2, z3, z4, z5, z6, z7, z8⟩ := Y3.u9
  obtain ⟨e, he⟩ : ∃ e, e = whenO x rev comp := ⟨_, rfl⟩
  obtain ⟨h4', h4e⟩ : ∃ h4', h4' = h3.sts b4 0 [.int .i64 (.ofNat e)] := ⟨_, rfl⟩
  have A4 := H3.a.put w43 (j := 0) (by simp [ansC]) (.int .i64 (.ofNat e))
  rw [Nat.zero_add, ← h4e] at A4
  have A4' : CellsAt h4' b4 0 (ansC e 0 0 false .nilslice) := A4
  obtain ⟨b0, b1, b2, b3, b4', b5', b6, b7, b8⟩ := A4'.u9
  have w44 : wrAt h4' b4 = true:= by rw [h4e, wrAt_sts]; exact w43
  have o4 : Og h0 h4' [b4]:= by rw [h4e]; exact H3.oo.sts (.inl (by simp))
  have k4 : ∀ c, c ≠ b4 → h4'.t.get c = h3.t.get c := fun c hc => by rw [h4e, get_sts _ _ _ _ hc]
  rw [← he]
  by_cases qe : e = 0
  ·have de : decide (e = 0) = true := decide_eq_true qe
   refine rT ?_ (V t0<|V t4<|V M1<|V M2<|V z0<|V z1<|V z2<|V z3<|V z4<|V z5<|V z6<|V z7<|V z8<|V a0<|V w43<|V h4e.symm<|V b0<|V de<|V @Bool.not_true<|V t47<|w1)
   refine ⟨l.length - (i + 1), by omega, i + 1, rfl, rfl, by omega, by exact sT, by exact sT, by exact sT, by exact sT, by exact sT, by exact sT, by exact sT, by exact sT, fun j y hj hy => ?_, ⟨by rw [cellAt_of_get (k4 bm hne)]; exact M1, by rw [cellAt_of_get (k4 bm hne)]; exact M2, by rw [qe] at A4'; exact A4', w44, o4⟩⟩
   by_cases ej : j < i
   ·exact no j y ej hy
   ·obtain rfl : j = i:= by omega
    rw [hx] at hy; cases hy; rw [← he]; exact qe
  ·have de : decide (e = 0) = false := decide_eq_false qe
   have ef : firstW rev comp l = e:= by rw [he]; exact firstW_at hx no (by rw [← he]; exact qe)
   obtain ⟨h5, h5e⟩ : ∃ h5, h5 = h4'.sts b4 0 (ansC e 0 0 false .nilslice) := ⟨_, rfl⟩
   have A5 : CellsAt h5 b4 0 (ansC e 0 0 false .nilslice):= by rw [h5e]; exact CellsAt.sts w44 _
   have o5 : Og h0 h5 [b4]:= by rw [h5e]; exact o4.sts (.inl (by simp))
   unfold ansC at h5e
   refine rT ?_ (V t0<|V t4<|V M1<|V M2<|V z0<|V z1<|V z2<|V z3<|V z4<|V z5<|V z6<|V z7<|V z8<|V a0<|V w43<|V h4e.symm<|V b0<|V b1<|V b2<|V b3<|V b4'<|V b5'<|V b6<|V b7<|V b8<|V de<|V @Bool.not_false<|V w44<|h5e.symm)
   exact hR _ _ (by exact sT) o5 (by rw [ef]; exact A5) (by rw [ef]; exact qe)
 ·have di : decide (i < l.length) = false := decide_eq_false hi
  obtain rfl : i = l.length:= by omega
  refine rN ?_ (V t0<|V t4<|V t5<|V t7<|V t8<|V t45<|V t46<|V t47<|di)
  exact hN _ _ (by exact sT) (by exact sT) (by exact sT) (by exact sT) (by exact sT) hh (firstW_ok fun j x hj => no j x (List.getElem?_eq_some_iff.1 hj).1 hj)
end
end Go.Proofs.Ytnedigoajoflaaa.M

namespace Go.Proofs.Ytnedigoajoflaaa.M
open Go Go.AX
noncomputable section
set_option maxRecDepth 100000
theorem i45 : infoOk P 94 8 = true:= by kernel_rfl
def ClipOf (v u : AV) (n : Nat) : Prop := (n = 0 ∧ v = .nilslice ∧ u = .nilslice) ∨ (∃ b, v = .slice b 0 n (.opn 0) ∧ u = .slice b 0 n (.exact n))
theorem commitV {h : H} {b0 base n m : Nat} {v0 u w : AV} {cs0 csw : List AV} (cl : ClipOf v0 u n) (gv : Grows 8 b0 h v0 n cs0) (gw : Grows 8 base h w m csw) (hm : 0 < m) (hz : n + m ≤ 1000000) {K : AV → H → Prop}
  (hk : ∀ v1 h2, Grows 8 h.nx h2 v1 (n + m) (cs0 ++ csw) → Og h h2 [] → K v1 h2) : exW P (builtinA P .append [45, 45] [u, w] h) K := by
 rcases cl with ⟨rfl, rfl, rfl⟩ | ⟨b, rfl, rfl⟩
 ·cases gv with
  | none =>
   rw [Nat.zero_add, List.nil_append] at hk
   refine app_row (base := h.nx) (n0 := 0) (cs0 := []) (by omega) u45a i45 Grows.none gw (Nat.le_refl _) (by omega) (fun v7 h7 g7 x7 old7 bl7 gg7 => ?_)
   rw [Nat.zero_add, List.nil_append] at g7
   exact hk v7 h7 g7 ⟨⟨x7, fun c hc _ => old7 c hc (by simp [blkOf])⟩, gg7⟩
 ·cases gv with
  | cell b n cs t ty h1 h2 h3 h4 h5 =>
   cases gw with
   | none => omega
   | cell bw m csw tw tyw w1 w2 w3 w4 w5 =>
    have hr := (grow_rowB (base := b0) h2 h4 h5)
    have hrw := (grow_rowB (base := base) w2 w4 w5)
    have r2 := hrw.row (o := 0) (n := m * 8) (by omega) (by omega)
    rw [List.drop_zero, List.take_of_length_le (by omega)] at r2
    rw [bi_append2 u45a u45a (fun k h => by cases h) i45, r2]
    have hrow0 : h.row b 0 (n * 8) = some cs0 := by
     rcases Nat.eq_zero_or_pos n with q | q
     ·subst q
      rw [Nat.zero_mul, row_zero hr 0]
      have : cs0 = [] := List.length_eq_zero_iff.1 (by omega)
      rw [this]
     ·have r1 := hr.row (o := 0) (n := n * 8) (by omega) (by omega)
      rwa [List.drop_zero, List.take_of_length_le (by omega)] at r1
    refine exW_xgrow (by omega) w3 (by omega) hrow0 (hk _ _ ?_ ⟨grown_only, rfl⟩)
    have hln : (cs0 ++ csw).length = (n + m) * 8:= by rw [List.length_append, h3, w3, Nat.add_mul]
    refine .cell h.nx (n + m) _ (T.ofRow (cs0 ++ csw)) 95 (Nat.le_refl _) (by rw [grownL_nx]; omega) hln ?_ (T.get_ofRow _)
    rw [← hln]
    exact grownL_new _ _ _ _
structure TxPost (h0 h' : H) (bm : Nat) (L0 : List Rec) (rev comp : Nat) (err : Nat) (tk : Bool) (rs : List Res) (R : List Rec) (v : AV) (xs : List RV) (rw_ v1 v0 : AV) : Prop where
 v : v = .agg (ansC err 0 0 tk rw_)
 hx : xs.map (·.1) = rs
 gr : SliceAt h' rw_ xs.length (xs.flatMap RVcs)
 ok : ∀ x, x ∈ xs → SliceAt h' x.2.1 x.1.kvs.length (x.1.kvs.flatMap KV.cs) ∧ SliceAt h' x.2.2 x.1.prev.length (x.1.prev.flatMap KV.cs)
 md : MdAt h' bm (L0 ++ R) (if R = [] then rev else rev + 1) comp v1
 gv : Grows 8 0 h' v1 (L0 ++ R).length ((L0 ++ R).flatMap Rec.cs)
 oo : Og h0 h' [bm]
 nv : ∀ c, blkOf v1 = some c → c ≠ bm
 rb : ∀ c, blkOf rw_ = some c → h0.nx ≤ c
 xb : ∀ x, x ∈ xs → (∀ c, blkOf x.2.1 = some c → h0.nx ≤ c) ∧ (∀ c, blkOf x.2.2 = some c → h0.nx ≤ c)
 vb : ∀ c, blkOf v1 = some c → blkOf v0 = some c ∨ h0.nx ≤ c
structure RowOk (h : H) (rw_ : AV) (xs : List RV) : Prop where
 gr : SliceAt h rw_ xs.length (xs.flatMap RVcs)
 ok : ∀ x, x ∈ xs → SliceAt h x.2.1 x.1.kvs.length (x.1.kvs.flatMap KV.cs) ∧ SliceAt h x.2.2 x.1.prev.length (x.1.prev.flatMap KV.cs)
theorem RowOk.move {h h' : H} {rw_ : AV} {xs : List RV} {lo : Nat} (k : RowOk h rw_ xs) (hx : h.nx ≤ h'.nx) (e : ∀ c, lo ≤ c → c < h.nx → h'.t.get c = h.t.get c) (b1 : ∀ c, blkOf rw_ = some c → lo ≤ c) (b2 : ∀ x, x ∈ xs → (∀ c, blkOf x.2.1 = some c → lo ≤ c) ∧ (∀ c, blkOf x.2.2 = some c → lo ≤ c)) : RowOk h' rw_ xs :=
 ⟨k.gr.move hx (fun c q => e c (b1 c q) (sl_lt k.gr c q)), fun x hx2 => ⟨(k.ok x hx2).1.move hx (fun c q => e c ((b2 x hx2).1 c q) (sl_lt (k.ok x hx2).1 c q)), (k.ok x hx2).2.move hx (fun c q => e c ((b2 x hx2).2 c q) (sl_lt (k.ok x hx2).2 c q))⟩⟩
set_option maxHeartbeats 4000000 in
theorem txnEnd (h0 h : H) (bd bm ro base b4 b5 b11 : Nat) (L0 : List Rec) (v0 : AV) (rev comp : Nat) (tk : Bool) (R : List Rec) (w : AV) (xs : List RV) (rw_ : AV) (hh : TxH h0 h bd bm ro base b4 b5 b11 L0 v0 rev comp R w xs rw_) (gv0 : Grows 8 0 h0 v0 L0.length (L0.flatMap Rec.cs)) (hbm : bm < h0.nx) (hne : ∀ c, blkOf v0 = some c → c ≠ bm) (hr : rev ≤ 1000000) (hz : L0.length + R.length ≤ 1000000)
  (tm : T AV) (t0 : tm.get 0 = some (.ptr bm 0)) (t4 : tm.get 4 = some (.ptr b4 0)) (t5 : tm.get 5 = some (.ptr b5 0)) (t7 : tm.get 7 = some (.bool tk)) (Q : AV → H → Prop)
  (hQ : ∀ v h' v1, TxPost h0 h' bm L0 rev comp 0 tk (xs.map (·.1)) R v xs rw_ v1 v0 → Q v h') :
  codeW P 20 121 none (codeI (bodyC Try.f20) [1, 1, 1, 1, 1, 1, 1, 1, 1, 1, 1]) [] tm h (retK P Try.f20 Q) := by
 have g0 := hh.oo.1.1
 have g1 := hh.l0
 have g4 := hh.l4
 have g5 := hh.l5
 have g11 := hh.l11
 have gb := hh.lb
 have gd2 := hh.d.l2
 have gd3 := hh.d.l3
 have gd4 := hh.d.l4
 have hwb : ∀ c, blkOf w = some c → base ≤ c ∧ c < h.nx := fun c e => hh.d.gr.base e
 obtain ⟨a0, a1, a2, a3, a4, a5, a6, a7, a8⟩ := hh.a.u9
 have w4 := hh.w4
 have gro := hh.gr.one
 have wo := hh.d.gr.one
 have hlen := hh.d.gr.slice.len (P := P) u45a
 obtain ⟨h1, h1e⟩ : ∃ h1, h1 = h.sts b4 3 [.bool tk] := ⟨_, rfl⟩
 have A1 : CellsAt h1 b4 0 (ansC 0 0 0 tk rw_) := by
  have := hh.a.put w4 (j := 3) (by simp [ansC]) (.bool tk)
  rw [Nat.zero_add, ← h1e] at this
  exact this
 have w41 : wrAt h1 b4 = true:= by rw [h1e, wrAt_sts]; exact w4
 have o1 : Og h h1 [b4]:= by rw [h1e]; exact (Og.refl _ _).sts (.inl (by simp))
 have oo1 : Og h0 h1 []:= by rw [h1e]; exact hh.oo.sts (.inr g1)
 have x1 : h1.nx = h.nx:= by rw [h1e, nx_sts]
 have k1 : ∀ c, c ≠ b4 → h1.t.get c = h.t.get c := fun c hc => by rw [h1e, get_sts _ _ _ _ hc]
 have k5 : cellAt h1 b5 0 = some (.ptr bd 0):= by rw [cellAt_of_get (k1 b5 (by omega))]; exact hh.k5
 have d2 : cellAt h1 bd 2 = some w:= by rw [cellAt_of_get (k1 bd (by omega))]; exact hh.d.c2
 obtain ⟨b0, b1, b2, b3, b4', b5', b6, b7, b8⟩ := A1.u9
 have rok : RowOk h rw_ xs := ⟨hh.gr.slice, fun x hx => ⟨(hh.ok x hx).ks, (hh.ok x hx).ps⟩⟩
 have rb1 : ∀ c, blkOf rw_ = some c → base ≤ c := fun c e => (hh.gr.base e).1
 have rb2 : ∀ x, x ∈ xs → (∀ c, blkOf x.2.1 = some c → base ≤ c) ∧ (∀ c, blkOf x.2.2 = some c → base ≤ c) := fun x hx => ⟨fun c e => ((hh.ok x hx).kb c e).1, fun c e => ((hh.ok x hx).pb c e).1⟩
 have md1 : MdAt h1 bm L0 rev comp v0 := hh.d.md.keep (by omega) (k1 bm (by omega)) (fun c e => k1 c (by have := hh.d.nv c e; have := (gv0.base e).2; omega))
 have gv1 : Grows 8 0 h1 v0 L0.length (L0.flatMap Rec.cs) := gv0.of_get oo1.1.1 (fun c e => oo1.1.2 c (gv0.base e).2 (by simp))
 cases hR : R with
 | nil =>
  subst hR
  have d1 : decide (0 < ([] : List Rec).length) = false := rfl
  obtain ⟨h2, h2e⟩ : ∃ h2, h2 = h1.sts b4 0 (ansC 0 0 0 tk rw_) := ⟨_, rfl⟩
  have A2 : CellsAt h2 b4 0 (ansC 0 0 0 tk rw_):= by rw [h2e]; exact CellsAt.sts w41 _
  obtain ⟨e0, e1, e2, e3, e4, e5, e6, e7, e8⟩ := A2.u9
  have k2 : ∀ c, c ≠ b4 → h2.t.get c = h1.t.get c := fun c hc => by rw [h2e, get_sts _ _ _ _ hc]
  have x2 : h2.nx = h1.nx:= by rw [h2e, nx_sts]
  have oo2 : Og h0 h2 []:= by rw [h2e]; exact oo1.sts (.inr g1)
  unfold ansC at h2e
  refine rN ?_ (V t0<|V t4<|V t5<|V t7<|V a3<|V w4<|V h1e.symm<|V k5<|V d2<|V wo<|V hlen<|V d1<|V b0<|V b1<|V b2<|V b3<|V b4'<|V b5'<|V b6<|V b7<|V b8<|V w41<|V gro<|V h2e.symm<|V e0<|V e1<|V e2<|V e3<|V e4<|V e5<|V e6<|V e7<|e8)
  have rok2 := rok.move (h' := h2) (lo := base) (by omega) (fun c hc hc2 => by rw [k2 c (by omega), k1 c (by omega)]) rb1 rb2
  refine hQ _ _ v0 ⟨rfl, rfl, rok2.gr, rok2.ok, ?_, ?_, ⟨⟨by omega, fun c hc _ => oo2.1.2 c hc (by simp)⟩, oo2.2⟩, hne, fun c e => by have := rb1 c e; omega, fun x hx => ⟨fun c e => by have := (rb2 x hx).1 c e; omega, fun c e => by have := (rb2 x hx).2 c e; omega⟩, fun c e => .inl e⟩
  ·rw [List.append_nil, if_pos rfl]
   exact md1.keep (by omega) (k2 bm (by omega)) (fun c e => k2 c (by have := (gv0.base e).2; omega))
  ·rw [List.append_nil]
   exact gv1.of_get (by omega) (fun c e => k2 c (by have := (gv0.base e).2; omega))
 | cons r0 R0 =>
  have hRl : 0 < R.length:= by rw [hR]; simp
  have hRn : R ≠ []:= by rw [hR]; simp
  have d1 : decide (0 < R.length) = true := decide_eq_true hRl
  have m0 := md1.c0
  have vo := gv1.one
  repeat' (first | ((with_reducible refine st1 ?_); (conv => whnf); (with_reducible refine ⟨?_⟩)) | ((with_reducible refine st_dp ord20_0 ?_ rfl rfl ?_); exact rfl; (conv => arg 4; whnf); (conv => arg 3; whnf)) | ((with_reducible refine st_dw ?_ rfl rfl ?_ ?_); exact rfl; kernel_rfl; (conv => arg 5; whnf); (conv => arg 3; whnf)) | ((with_reducible refine retW_intro rfl ?_); (conv => arg 2; whnf)) | ((with_reducible first | refine iB ?_ ?_ | refine gWt ?_ ?_ | refine gWf ?_ ?_ | refine gXt ?_ ?_ | refine gXf ?_ ?_) <;> intro hb <;> (try simp only [hb])) | ((with_reducible show drawP _ _ _ _ _ _ _ _ _); first | ((with_reducible apply kP_rd); exact rfl; exact rfl) | ((with_reducible apply kP_rg); exact rfl; exact rfl; exact rfl) | ((with_reducible apply kP_cv); exact rfl; exact rfl; kernel_rfl) | ((with_reducible apply kP_al); exact rfl; exact rfl; exact rfl) | ((with_reducible apply kP_fl); exact rfl; exact rfl; exact rfl) | ((with_reducible apply kP_ex); exact rfl; exact rfl; kernel_rfl; exact rfl) | ((with_reducible apply kP_eg); exact rfl; exact rfl; kernel_rfl; exact rfl) | ((with_reducible refine kP_nl ?_ ?_))) | ((with_reducible show drawI _ _ _ _ _ _ _ _ _); first | ((with_reducible refine kI_rd ?_ ?_); exact rfl) | ((with_reducible apply kI_rg); exact rfl; exact rfl) | ((with_reducible refine kI_cv ?_ ?_ ?_); exact rfl; kernel_rfl) | ((with_reducible apply kI_al); exact rfl; exact rfl) | ((with_reducible refine kI_ex ?_ ?_ ?_ ?_ ?_); exact rfl; kernel_rfl; exact rfl) | ((with_reducible apply kI_eg); exact rfl; kernel_rfl; exact rfl) | ((with_reducible refine kI_nl ?_ ?_))) | ((with_reducible show eOk _ _ _ _ _ _); first | (exact eok_nil) | (refine ke_rd ?_ ?_ ?_; exact rfl) | (apply ke_rg; exact rfl; exact rfl) | (refine ke_cv ?_ ?_ ?_ ?_; exact rfl; kernel_rfl) | (apply ke_fl; exact rfl) | (apply ke_al; exact rfl; exact rfl)) | ((with_reducible refine freshIs_new ?_); kernel_rfl) | (simp only [B, xB, F, reduceLT, reduceLeDiff, reduceEqDiff, reduceAdd, reduceMul, reduceSub, ↓reduceIte, eq_self, t0, t4, t5, t7, a3, w4, ← h1e, k5, d2, wo, hlen, d1, m0, vo]))
  refine ((clipC h1 0 v0 _ _ gv1).call P).mono P ?_
  rintro u h1' ⟨he1, cl⟩
  rw [he1]
  have uo : u.one = true:= by rcases cl with ⟨-, -, rfl⟩ | ⟨b, -, rfl⟩ <;> rfl
  have gw1 : Grows 8 base h1 w _ _ := hh.d.gr.of_get (by omega) (fun c e => k1 c (by have := hwb c e; omega))
  repeat' (first | ((with_reducible refine st1 ?_); (conv => whnf); (with_reducible refine ⟨?_⟩)) | ((with_reducible refine st_dp ord20_0 ?_ rfl rfl ?_); exact rfl; (conv => arg 4; whnf); (conv => arg 3; whnf)) | ((with_reducible refine st_dw ?_ rfl rfl ?_ ?_); exact rfl; kernel_rfl; (conv => arg 5; whnf); (conv => arg 3; whnf)) | ((with_reducible refine retW_intro rfl ?_); (conv => arg 2; whnf)) | ((with_reducible first | refine iB ?_ ?_ | refine gWt ?_ ?_ | refine gWf ?_ ?_ | refine gXt ?_ ?_ | refine gXf ?_ ?_) <;> intro hb <;> (try simp only [hb])) | ((with_reducible show drawP _ _ _ _ _ _ _ _ _); first | ((with_reducible apply kP_rd); exact rfl; exact rfl) | ((with_reducible apply kP_rg); exact rfl; exact rfl; exact rfl) | ((with_reducible apply kP_cv); exact rfl; exact rfl; kernel_rfl) | ((with_reducible apply kP_al); exact rfl; exact rfl; exact rfl) | ((with_reducible apply kP_fl); exact rfl; exact rfl; exact rfl) | ((with_reducible apply kP_ex); exact rfl; exact rfl; kernel_rfl; exact rfl) | ((with_reducible apply kP_eg); exact rfl; exact rfl; kernel_rfl; exact rfl) | ((with_reducible refine kP_nl ?_ ?_))) | ((with_reducible show drawI _ _ _ _ _ _ _ _ _); first | ((with_reducible refine kI_rd ?_ ?_); exact rfl) | ((with_reducible apply kI_rg); exact rfl; exact rfl) | ((with_reducible refine kI_cv ?_ ?_ ?_); exact rfl; kernel_rfl) | ((with_reducible apply kI_al); exact rfl; exact rfl) | ((with_reducible refine kI_ex ?_ ?_ ?_ ?_ ?_); exact rfl; kernel_rfl; exact rfl) | ((with_reducible apply kI_eg); exact rfl; kernel_rfl; exact rfl) | ((with_reducible refine kI_nl ?_ ?_))) | ((with_reducible show eOk _ _ _ _ _ _); first | (exact eok_nil) | (refine ke_rd ?_ ?_ ?_; exact rfl) | (apply ke_rg; exact rfl; exact rfl) | (refine ke_cv ?_ ?_ ?_ ?_; exact rfl; kernel_rfl) | (apply ke_fl; exact rfl) | (apply ke_al; exact rfl; exact rfl)) | ((with_reducible refine freshIs_new ?_); kernel_rfl) | (simp only [B, xB, F, reduceLT, reduceLeDiff, reduceEqDiff, reduceAdd, reduceMul, reduceSub, ↓reduceIte, eq_self, t0, t4, t5, k5, d2, wo, uo, m0, vo]))
  refine commitV cl gv1 gw1 hRl hz (fun v1 h2 g2 o2 => ?_)
  have x2 := o2.1.1
  have v1o := g2.one
  have v1c := g2.cells
  have wm := md1.wr
  have m0' := kc m0 o2 md1.lt (by simp)
  have wm' := kw wm o2 md1.lt (by simp)
  have m1' := kc md1.c1 o2 md1.lt (by simp)
  have m2' := kc md1.c2 o2 md1.lt (by simp)
  have k5' := kc k5 o2 (by omega) (by simp)
  have d2' := kc d2 o2 (by omega) (by simp)
  have M : CellsAt h2 bm 0 [v0, .int .u64 (.ofNat rev), .int .u64 (.ofNat comp)] := .m3 m0' m1' m2'
  obtain ⟨h3, h3e⟩ : ∃ h3, h3 = h2.sts bm 0 [v1] := ⟨_, rfl⟩
  have M3 := M.put wm' (j := 0) (by simp) v1
  rw [Nat.zero_add, ← h3e] at M3
  have wm3 : wrAt h3 bm = true:= by rw [h3e, wrAt_sts]; exact wm'
  obtain ⟨p0, p1, p2⟩ := CellsAt.u3 (show CellsAt h3 bm 0 [v1, .int .u64 (.ofNat rev), .int .u64 (.ofNat comp)] from M3)
  obtain ⟨h4, h4e⟩ : ∃ h4, h4 = h3.sts bm 1 [.int .u64 (.ofNat (rev + 1))] := ⟨_, rfl⟩
  have M4 := M3.put wm3 (j := 1) (by simp) (.int .u64 (.ofNat (rev + 1)))
  rw [Nat.zero_add, ← h4e] at M4
  obtain ⟨r0', r1', r2'⟩ := CellsAt.u3 (show CellsAt h4 bm 0 [v1, .int .u64 (.ofNat (rev + 1)), .int .u64 (.ofNat comp)] from M4)
  have wm4 : wrAt h4 bm = true:= by rw [h4e, wrAt_sts]; exact wm3
  have wr1 : wrapF .u64 (Int.ofNat rev + Int.ofNat 1) = Int.ofNat (rev + 1) := u64_add (by omega)
  have k4 : ∀ c, c ≠ bm → h4.t.get c = h2.t.get c := fun c hc => by rw [h4e, get_sts _ _ _ _ hc, h3e, get_sts _ _ _ _ hc]
  have x4 : h4.nx = h2.nx:= by rw [h4e, nx_sts, h3e, nx_sts]
  have A4 : CellsAt h4 b4 0 (ansC 0 0 0 tk rw_) := (gC A1 o2 (by omega) (by simp)).of_get (k4 b4 (by omega))
  have w44 : wrAt h4 b4 = true:= by rw [wrAt_of_get (k4 b4 (by omega))]; exact kw w41 o2 (by omega) (by simp)
  obtain ⟨e0, e1, e2, e3, e4, e5, e6, e7, e8⟩ := A4.u9
  obtain ⟨h5, h5e⟩ : ∃ h5, h5 = h4.sts b4 0 (ansC 0 0 0 tk rw_) := ⟨_, rfl⟩
  have A5 : CellsAt h5 b4 0 (ansC 0 0 0 tk rw_):= by rw [h5e]; exact CellsAt.sts w44 _
  obtain ⟨s0, s1, s2, s3, s4, s5, s6, s7, s8⟩ := A5.u9
  have k5'' : ∀ c, c ≠ b4 → h5.t.get c = h4.t.get c := fun c hc => by rw [h5e, get_sts _ _ _ _ hc]
  have x5 : h5.nx = h4.nx:= by rw [h5e, nx_sts]
  unfold ansC at h5e
  repeat' (first | ((with_reducible refine st1 ?_); (conv => whnf); (with_reducible refine ⟨?_⟩)) | ((with_reducible refine st_dp ord20_0 ?_ rfl rfl ?_); exact rfl; (conv => arg 4; whnf); (conv => arg 3; whnf)) | ((with_reducible refine st_dw ?_ rfl rfl ?_ ?_); exact rfl; kernel_rfl; (conv => arg 5; whnf); (conv => arg 3; whnf)) | ((with_reducible refine retW_intro rfl ?_); (conv => arg 2; whnf)) | ((with_reducible first | refine iB ?_ ?_ | refine gWt ?_ ?_ | refine gWf ?_ ?_ | refine gXt ?_ ?_ | refine gXf ?_ ?_) <;> intro hb <;> (try simp only [hb])) | ((with_reducible show drawP _ _ _ _ _ _ _ _ _); first | ((with_reducible apply kP_rd); exact rfl; exact rfl) | ((with_reducible apply kP_rg); exact rfl; exact rfl; exact rfl) | ((with_reducible apply kP_cv); exact rfl; exact rfl; kernel_rfl) | ((with_reducible apply kP_al); exact rfl; exact rfl; exact rfl) | ((with_reducible apply kP_fl); exact rfl; exact rfl; exact rfl) | ((with_reducible apply kP_ex); exact rfl; exact rfl; kernel_rfl; exact rfl) | ((with_reducible apply kP_eg); exact rfl; exact rfl; kernel_rfl; exact rfl) | ((with_reducible refine kP_nl ?_ ?_))) | ((with_reducible show drawI _ _ _ _ _ _ _ _ _); first | ((with_reducible refine kI_rd ?_ ?_); exact rfl) | ((with_reducible apply kI_rg); exact rfl; exact rfl) | ((with_reducible refine kI_cv ?_ ?_ ?_); exact rfl; kernel_rfl) | ((with_reducible apply kI_al); exact rfl; exact rfl) | ((with_reducible refine kI_ex ?_ ?_ ?_ ?_ ?_); exact rfl; kernel_rfl; exact rfl) | ((with_reducible apply kI_eg); exact rfl; kernel_rfl; exact rfl) | ((with_reducible refine kI_nl ?_ ?_))) | ((with_reducible show eOk _ _ _ _ _ _); first | (exact eok_nil) | (refine ke_rd ?_ ?_ ?_; exact rfl) | (apply ke_rg; exact rfl; exact rfl) | (refine ke_cv ?_ ?_ ?_ ?_; exact rfl; kernel_rfl) | (apply ke_fl; exact rfl) | (apply ke_al; exact rfl; exact rfl)) | ((with_reducible refine freshIs_new ?_); kernel_rfl) | (simp only [B, xB, F, reduceLT, reduceLeDiff, reduceEqDiff, reduceAdd, reduceMul, reduceSub, ↓reduceIte, eq_self, t0, t4, t5, k5, k5', d2', wo, uo, vo, v1o, v1c, m0', wm', ← h3e, p0, p1, p2, wm3, wr1, ← h4e, e0, e1, e2, e3, e4, e5, e6, e7, e8, w44, gro, ← h5e, s0, s1, s2, s3, s4, s5, s6, s7, s8]))
  have kk : ∀ c, c < h.nx → c ≠ b4 → c ≠ bm → h5.t.get c = h.t.get c := fun c hc n1 n2 => by rw [k5'' c n1, k4 c n2, o2.1.2 c (by omega) (by simp), k1 c n1]
  have rok5 := rok.move (h' := h5) (lo := base) (by omega) (fun c hc hc2 => kk c hc2 (by omega) (by omega)) rb1 rb2
  have M5 : CellsAt h5 bm 0 [v1, .int .u64 (.ofNat (rev + 1)), .int .u64 (.ofNat comp)] := (CellsAt.m3 r0' r1' r2').of_get (k5'' bm (by omega))
  obtain ⟨y0, y1, y2⟩ := M5.u3
  have g5' : Grows 8 0 h5 v1 (L0 ++ R).length ((L0 ++ R).flatMap Rec.cs) := by
   rw [List.length_append, List.flatMap_append]
   exact (g2.of_get (by omega) (fun c e => by have := (g2.base e).1; rw [k5'' c (by omega), k4 c (by omega)])).wk (Nat.zero_le _)
  refine hQ _ _ v1 ⟨rfl, rfl, rok5.gr, rok5.ok, ?_, g5', ⟨⟨by omega, fun c hc hn => ?_⟩, ?_⟩, fun c e => by have := (g2.base e).1; omega, fun c e => by have := rb1 c e; omega, fun x hx => ⟨fun c e => by have := (rb2 x hx).1 c e; omega, fun c e => by have := (rb2 x hx).2 c e; omega⟩, fun c e => .inr (by have := (g2.base e).1; omega)⟩
  ·rw [if_neg hRn]
   exact ⟨by omega, y0, y1, y2, by rw [wrAt_of_get (k5'' bm (by omega))]; exact wm4, g5'.slice⟩
  ·rw [kk c (by omega) (by omega) (by simpa using hn)]; exact hh.oo.1.2 c hc (by simp)
  ·rw [h5e, g_sts, h4e, g_sts, h3e, g_sts, o2.2, o1.2, hh.oo.2]
end
end Go.Proofs.Ytnedigoajoflaaa.M


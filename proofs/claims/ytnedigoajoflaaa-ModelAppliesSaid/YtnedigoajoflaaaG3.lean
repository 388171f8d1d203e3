/-
  'ModelApplies' returns true, whatever the input; the argument reads as it did. No condition.
-/
import Derived.Test.YtnedigoajoflaaaAxI
import Derived.Test.YtnedigoajoflaaaG2
import Derived.Test.YtnedigoajoflaaaG0
import Derived.Test.YtnedigoajoflaaaAxF
import Derived.Test.YtnedigoajoflaaaRows
import Derived.OpenShut
set_option linter.unusedSimpArgs false
set_option linter.unusedVariables false
set_option linter.unusedSectionVars false
open Nat (reduceLT reduceLeDiff reduceEqDiff reduceAdd reduceMul reduceSub)
namespace Go.Proofs.Ytnedigoajoflaaa.M
open Go Go.AX
noncomputable section
set_option maxRecDepth 100000
structure DgI (hA : H) (b base : Nat) (L R : List Rec) (rev : Nat) (wa : AV) (l : List KV) (va : AV) (tm0 : T AV) (m : Nat) (ds : List Nat) (tm : T AV) (h : H) (i : Nat) (w' : AV) : Prop where
 ds : ds = []
 nn : m = l.length - i
 ii : i ≤ l.length
 tt : ∀ j, j ≤ 16 → j ≠ 13 → tm.get j = tm0.get j
 t13 : tm.get 13 = some w'
 t21 : tm.get 21 = some va
 t22 : tm.get 22 = some (.int .i64 (.ofNat i))
 ga : Grows 8 base h w' (L ++ dropRs rev R (l.take i)).length ((L ++ dropRs rev R (l.take i)).flatMap Rec.cs)
 nx : hA.nx ≤ h.nx
 old : ∀ c, c < hA.nx → blkOf wa ≠ some c → h.t.get c = hA.t.get c
 nw : ∀ c, blkOf w' = some c → blkOf wa = some c ∨ hA.nx ≤ c
 g : h.g = hA.g
set_option maxHeartbeats 8000000 in
theorem op2C (hk : H) (b b15 b16 base : Nat) (L R : List Rec) (rev : Nat) (v wa : AV) (op : Op) (cb : cellAt hk b 0 = some v) (hlen : ∀ (h' : H) (ts : List TypeId) (xs : List AV), builtinA P .len (45 :: ts) (v :: xs) h' = .val (.int .i64 (.ofNat L.length)) h') (vo : v.one = true) (lb : b < hk.nx) (nb16 : b ≠ b16) (nab : blkOf wa ≠ some b)
  (Y : CellsAt hk b15 0 op.cs) (Z : CellsAt hk b16 0 [.nilslice, .bool false, .int .i64 (.ofNat 0), .int .i64 (.ofNat 0), .nilslice]) (wz : wrAt hk b16 = true)
  (ga : Grows 8 base hk wa (L ++ R).length ((L ++ R).flatMap Rec.cs)) (l15 : b15 < hk.nx) (l16 : b16 < hk.nx) (n16 : b15 ≠ b16) (na : ∀ c, blkOf wa = some c → c ≠ b16) (na5 : ∀ c, blkOf wa = some c → c ≠ b15) (hbase : base ≤ hk.nx) (hkd : op.kind = Int.ofNat 2) (hs : Short (L ++ R)) (hz : (L ++ R).length ≤ 400000)
  (tm : T AV) (t0 : tm.get 0 = some (.ptr b 0)) (t12 : tm.get 12 = some (.int .u64 (.ofNat (rev + 1)))) (t13 : tm.get 13 = some wa) (t15 : tm.get 15 = some (.ptr b15 0)) (t16 : tm.get 16 = some (.ptr b16 0)) (K : KQ)
  (hK : ∀ tm2 h2 wa' k p, (∀ j, j ≤ 16 → j ≠ 13 → tm2.get j = tm.get j) → tm2.get 13 = some wa' → OpR hk h2 b16 base L (opS rev L R op).2 (opS rev L R op).1 wa wa' k p → K .norm [] tm2 h2) :
  codeW P 22 276 none (codeI (bodyC Try.f22) [0, 1, 1, 0, 0, 1, 0, 0, 1, 0, 1, 1, 1, 1, 1, 1, 1, 1, 1, 1, 1, 1, 1, 1, 1]) [] tm hk K := by
 obtain ⟨l, hl⟩ : ∃ l, l = inV (atV (rev + 1) (L ++ R)) op.key op.fin := ⟨_, rfl⟩
 have eo : opS rev L R op = (dropR op l, dropRs rev R l):= by unfold opS; rw [if_neg (by rw [hkd]; decide), if_neg (by rw [hkd]; decide), hl]
 rw [eo] at hK
 obtain ⟨y0, y1, y2, y3, y4, y5, y6, y7, y8⟩ := CellsAt.u9 (show CellsAt hk b15 0 [.int .i64 op.kind, .str op.key, .str op.fin, .str op.val, .int .u64 (.ofNat op.rev), .int .i64 op.limit, .bool op.count, .bool op.keys, .bool op.prev] from Y)
 rw [hkd] at y0
 have wo := ga.one
 have hwl : ∀ c, blkOf wa = some c → c < hk.nx := fun c e => (ga.base e).2
 have hll : l.length ≤ 400000:= by rw [hl]; have := inV_len (atV (rev + 1) (L ++ R)) op.key op.fin; have := atV_len (main := rev + 1) hs; omega
 refine rN ?_ (V t0<|V t12<|V t13<|V t15<|V t16<|V y0<|V y1<|V y2<|V y3<|V y4<|V y5<|V y6<|V y7<|V y8<|wo)
 refine ((allC hk wa (L ++ R) op.key op.fin (rev + 1) ga.slice (by omega)).call P).mono P ?_
 rintro va h1 ⟨o1, g1⟩
 rw [all_inV hs, ← hl] at g1
 have x1 := o1.1.1
 have v1o := g1.one
 have v1c := g1.cells
 have hlv := g1.slice.len (P := P) u44a
 have vb : ∀ c, blkOf va = some c → hk.nx ≤ c ∧ c < h1.nx := fun c e => g1.base e
 have ga1 : Grows 8 base h1 wa _ _ := ga.of_get x1 (fun c e => o1.1.2 c (hwl c e) (by simp))
 refine rN ?_ (v1o)
 refine st_loop (fun m ds tm' h => ∃ i w', DgI h1 b base L R rev wa l va tm m ds tm' h i w') l.length rfl ⟨0, wa, rfl, rfl, Nat.zero_le _, (fun j hj hn => by repeat (rw [T.get_set, if_neg (by omega)])), by exact sT, by exact sT, by exact sT, ga1, Nat.le_refl _, (fun c hc _ => rfl), (fun c e => .inl e), rfl⟩ (fun m ds tm' h hI => ?_)
 obtain ⟨i, w', rfl, rfl, ii, tt, u13, u21, u22, gaw, nx, old, nw, g⟩ := hI
 have u0 := (tt 0 (by omega) (by omega)).trans t0
 have u12 := (tt 12 (by omega) (by omega)).trans t12
 have u15 := (tt 15 (by omega) (by omega)).trans t15
 have u16 := (tt 16 (by omega) (by omega)).trans t16
 have wo' := gaw.one
 have kk : ∀ c, c < hk.nx → blkOf wa ≠ some c → h.t.get c = hk.t.get c := fun c hc hn => by rw [old c (by omega) hn, o1.1.2 c hc (by simp)]
 have kv : ∀ c, blkOf va = some c → h.t.get c = h1.t.get c := fun c e => old c (vb c e).2 (fun e2 => by have := hwl c e2; have := vb c e; omega)
 by_cases hi : i < l.length
 ·have di : decide (i < l.length) = true := decide_eq_true hi
  have lt1 : (i < l.length) = True:= by simp [hi]
  obtain ⟨x, hx⟩ : ∃ x, l[i]? = some x := ⟨_, List.getElem?_eq_getElem hi⟩
  have vsh := g1.slice.move (h' := h) nx kv
  obtain ⟨bv, ov, cv, rfl, hbv, -⟩ := vsh.place (by omega)
  obtain ⟨q0, q1, q2, q3, q4⟩ := KV.at vsh hx
  have w1 : wrapF .i64 (Int.ofNat i + Int.ofNat 1) = Int.ofNat (i + 1) := i64_add (by omega)
  have hla := gaw.slice.len (P := P) u45a
  have hdl := dropRs_len rev (l.take i) R
  rw [List.length_take] at hdl
  obtain ⟨R1, hR1⟩ : ∃ R1, R1 = dropRs rev R (l.take i) := ⟨_, rfl⟩
  rw [← hR1] at gaw hla hdl
  have hzL : L.length ≤ 400000 ∧ R.length ≤ 400000:= by rw [List.length_append] at hz; omega
  have ws : wrapF .i64 (Int.ofNat (L ++ R1).length - Int.ofNat L.length) = Int.ofNat R1.length := by
   rw [i64_sub (by rw [List.length_append]; omega) (by rw [List.length_append]; omega), List.length_append]; exact congrArg Int.ofNat (by omega)
  have wu : wrapF .u64 (Int.ofNat R1.length) = Int.ofNat R1.length := u64_id (by omega)
  have cbh : cellAt h b 0 = some v:= by rw [cellAt_of_get (kk b lb nab)]; exact cb
  obtain ⟨h3, h3e⟩ : ∃ h3, h3 = h.newCells 94 [.int .u64 (.ofNat (rev + 1)), .int .u64 (.ofNat R1.length), .str x.key, .str [], .int .u64 (.ofNat 0), .int .u64 (.ofNat 0), .int .u64 (.ofNat 0), .bool true] := ⟨_, rfl⟩
  have o3 : Og h h3 []:= by rw [h3e]; exact (Og.refl _ _).new _ _
  have x3 : h3.nx = h.nx + 1:= by rw [h3e]; rfl
  have hrow : h3.row h.nx 0 8 = some (mkR rev R1 ⟨x.key, [], 0, 0, 0⟩ true).cs := row_ok (o := 0) (cs := (mkR rev R1 ⟨x.key, [], 0, 0, 0⟩ true).cs) (fun j hj => by rw [h3e, cellAt_new, Nat.zero_add, if_pos rfl]; rfl) (by simp [Rec.cs])
  have ga3 : Grows 8 base h3 w' _ _ := gaw.of_get (by omega) (fun c e => o3.1.2 c (gaw.base e).2 (by simp))
  have cb3 := kc cbh o3 (by omega) (by simp)
  have vs3 := SliceAt.only o3.1 vsh (fun _ _ => by simp)
  obtain ⟨p0, p1, p2, p3, p4⟩ := KV.at vs3 hx
  repeat' (first | ((with_reducible refine st1 ?_); (conv => whnf); (with_reducible refine ⟨?_⟩)) | ((with_reducible refine st_dp ord22_0 ?_ rfl rfl ?_); exact rfl; (conv => arg 4; whnf); (conv => arg 3; whnf)) | ((with_reducible refine st_dp ord22_1 ?_ rfl rfl ?_); exact rfl; (conv => arg 4; whnf); (conv => arg 3; whnf)) | ((with_reducible refine st_dp ord22_2 ?_ rfl rfl ?_); exact rfl; (conv => arg 4; whnf); (conv => arg 3; whnf)) | ((with_reducible refine st_dw ?_ rfl rfl ?_ ?_); exact rfl; kernel_rfl; (conv => arg 5; whnf); (conv => arg 3; whnf)) | ((with_reducible refine retW_intro rfl ?_); (conv => arg 2; whnf)) | ((with_reducible first | refine iB ?_ ?_ | refine gWt ?_ ?_ | refine gWf ?_ ?_ | refine gXt ?_ ?_ | refine gXf ?_ ?_) <;> intro hb <;> (try simp only [hb])) | ((with_reducible show drawP _ _ _ _ _ _ _ _ _); first | ((with_reducible apply kP_rd); exact rfl; exact rfl) | ((with_reducible apply kP_rg); exact rfl; exact rfl; exact rfl) | ((with_reducible apply kP_cv); exact rfl; exact rfl; kernel_rfl) | ((with_reducible apply kP_al); exact rfl; exact rfl; exact rfl) | ((with_reducible apply kP_fl); exact rfl; exact rfl; exact rfl) | ((with_reducible apply kP_ex); exact rfl; exact rfl; kernel_rfl; exact rfl) | ((with_reducible apply kP_eg); exact rfl; exact rfl; kernel_rfl; exact rfl) | ((with_reducible refine kP_nl ?_ ?_))) | ((with_reducible show drawI _ _ _ _ _ _ _ _ _); first | ((with_reducible refine kI_rd ?_ ?_); exact rfl) | ((with_reducible apply kI_rg); exact rfl; exact rfl) | ((with_reducible refine kI_cv ?_ ?_ ?_); exact rfl; kernel_rfl) | ((with_reducible apply kI_al); exact rfl; exact rfl) | ((with_reducible refine kI_ex ?_ ?_ ?_ ?_ ?_); exact rfl; kernel_rfl; exact rfl) | ((with_reducible apply kI_eg); exact rfl; kernel_rfl; exact rfl) | ((with_reducible refine kI_nl ?_ ?_))) | ((with_reducible show eOk _ _ _ _ _ _); first | (exact eok_nil) | (refine ke_rd ?_ ?_ ?_; exact rfl) | (apply ke_rg; exact rfl; exact rfl) | (refine ke_cv ?_ ?_ ?_ ?_; exact rfl; kernel_rfl) | (apply ke_fl; exact rfl) | (apply ke_al; exact rfl; exact rfl)) | ((with_reducible refine freshIs_new ?_); kernel_rfl) | (simp only [B, xB, F, reduceLT, reduceLeDiff, reduceEqDiff, reduceAdd, reduceMul, reduceSub, ↓reduceIte, eq_self, u0, u12, u13, u15, u16, u21, u22, hlv, di, lt1, q0, q1, q2, q3, q4, cbh, vo, wo', hlen, hla, ws, wu, ← h3e, hrow, cb3, p0]))
  refine exW_growsG (m := 1) (new := (mkR rev R1 ⟨x.key, [], 0, 0, 0⟩ true).cs) ga3 (by omega) (by omega) (by omega) rfl (by rw [List.length_append]; omega) (fun v7 h7 g7 x7 old7 bl7 gg7 => ?_)
  have g7o := g7.one
  repeat' (first | ((with_reducible refine st1 ?_); (conv => whnf); (with_reducible refine ⟨?_⟩)) | ((with_reducible refine st_dp ord22_0 ?_ rfl rfl ?_); exact rfl; (conv => arg 4; whnf); (conv => arg 3; whnf)) | ((with_reducible refine st_dp ord22_1 ?_ rfl rfl ?_); exact rfl; (conv => arg 4; whnf); (conv => arg 3; whnf)) | ((with_reducible refine st_dp ord22_2 ?_ rfl rfl ?_); exact rfl; (conv => arg 4; whnf); (conv => arg 3; whnf)) | ((with_reducible refine st_dw ?_ rfl rfl ?_ ?_); exact rfl; kernel_rfl; (conv => arg 5; whnf); (conv => arg 3; whnf)) | ((with_reducible refine retW_intro rfl ?_); (conv => arg 2; whnf)) | ((with_reducible first | refine iB ?_ ?_ | refine gWt ?_ ?_ | refine gWf ?_ ?_ | refine gXt ?_ ?_ | refine gXf ?_ ?_) <;> intro hb <;> (try simp only [hb])) | ((with_reducible show drawP _ _ _ _ _ _ _ _ _); first | ((with_reducible apply kP_rd); exact rfl; exact rfl) | ((with_reducible apply kP_rg); exact rfl; exact rfl; exact rfl) | ((with_reducible apply kP_cv); exact rfl; exact rfl; kernel_rfl) | ((with_reducible apply kP_al); exact rfl; exact rfl; exact rfl) | ((with_reducible apply kP_fl); exact rfl; exact rfl; exact rfl) | ((with_reducible apply kP_ex); exact rfl; exact rfl; kernel_rfl; exact rfl) | ((with_reducible apply kP_eg); exact rfl; exact rfl; kernel_rfl; exact rfl) | ((with_reducible refine kP_nl ?_ ?_))) | ((with_reducible show drawI _ _ _ _ _ _ _ _ _); first | ((with_reducible refine kI_rd ?_ ?_); exact rfl) | ((with_reducible apply kI_rg); exact rfl; exact rfl) | ((with_reducible refine kI_cv ?_ ?_ ?_); exact rfl; kernel_rfl) | ((with_reducible apply kI_al); exact rfl; exact rfl) | ((with_reducible refine kI_ex ?_ ?_ ?_ ?_ ?_); exact rfl; kernel_rfl; exact rfl) | ((with_reducible apply kI_eg); exact rfl; kernel_rfl; exact rfl) | ((with_reducible refine kI_nl ?_ ?_))) | ((with_reducible show eOk _ _ _ _ _ _); first | (exact eok_nil) | (refine ke_rd ?_ ?_ ?_; exact rfl) | (apply ke_rg; exact rfl; exact rfl) | (refine ke_cv ?_ ?_ ?_ ?_; exact rfl; kernel_rfl) | (apply ke_fl; exact rfl) | (apply ke_al; exact rfl; exact rfl)) | ((with_reducible refine freshIs_new ?_); kernel_rfl) | (simp only [B, xB, F, reduceLT, reduceLeDiff, reduceEqDiff, reduceAdd, reduceMul, reduceSub, ↓reduceIte, eq_self, u0, u12, u13, u15, u16, u21, u22, g7o, w1]))
  refine ⟨l.length - (i + 1), by omega, i + 1, v7, rfl, rfl, by omega, fun j hj hn => ?_, by exact sT, by simp only [B, xB, F, reduceLT, reduceLeDiff, reduceEqDiff, reduceAdd, reduceMul, reduceSub, ↓reduceIte, eq_self, u21], by exact sT, ?_, by omega, fun c hc hn => ?_, fun c e => .inr (by rw [bl7] at e; cases e; omega), by rw [gg7, o3.2, g]⟩
  ·repeat (rw [T.get_set, if_neg (by omega)])
   exact tt j hj hn
  ·rw [dropRs_s hx, ← hR1]
   unfold goneR
   rw [← List.append_assoc, List.length_append, List.flatMap_append, List.flatMap_singleton]
   exact g7
  ·rw [old7 c (by omega) (fun e => by rcases nw c e with q | q; exact hn q; omega), o3.1.2 c (by omega) (by simp), old c hc hn]
 ·have di : decide (i < l.length) = false := decide_eq_false hi
  obtain rfl : i = l.length:= by omega
  rw [List.take_length] at gaw
  have Zh := Z.of_get (kk b16 l16 (fun e => na _ e rfl))
  have wzh : wrAt h b16 = true:= by rw [wrAt_of_get (kk b16 l16 (fun e => na _ e rfl))]; exact wz
  have Yh := Y.of_get (kk b15 l15 (fun e => na5 _ e rfl))
  obtain ⟨z0, z1, z2, z3, z4⟩ := Zh.u5
  obtain ⟨h3, h3e⟩ : ∃ h3, h3 = h.sts b16 3 [.int .i64 (.ofNat l.length)] := ⟨_, rfl⟩
  have Z3 := Zh.put wzh (j := 3) (by simp) (.int .i64 (.ofNat l.length))
  rw [Nat.zero_add, ← h3e] at Z3
  have wz3 : wrAt h3 b16 = true:= by rw [h3e, wrAt_sts]; exact wzh
  have k3 : ∀ c, c ≠ b16 → h3.t.get c = h.t.get c := fun c hc => by rw [h3e, get_sts _ _ _ _ hc]
  have x3 : h3.nx = h.nx:= by rw [h3e, nx_sts]
  have Y3 := Yh.of_get (k3 b15 n16)
  obtain ⟨-, -, -, -, -, -, -, -, p8⟩ := CellsAt.u9 (show CellsAt h3 b15 0 [.int .i64 op.kind, .str op.key, .str op.fin, .str op.val, .int .u64 (.ofNat op.rev), .int .i64 op.limit, .bool op.count, .bool op.keys, .bool op.prev] from Y3)
  obtain ⟨e0, e1, e2, e3, e4⟩ := Z3.u5
  have nwb : ∀ c, blkOf w' = some c → c ≠ b16 := fun c e => by
   rcases nw c e with q | q
   ·exact na c q
   ·omega
  have nwv : ∀ c, blkOf va = some c → blkOf w' ≠ some c := fun c e e2 => by
   have := vb c e
   rcases nw c e2 with q | q
   ·have := hwl c q; omega
   ·omega
  have vs := g1.slice
  cases qp : op.prev with
  | false =>
   rw [qp] at p8
   refine rN ?_ (V u0<|V u12<|V u13<|V u15<|V u16<|V u21<|V u22<|V hlv<|V di<|V z3<|V wzh<|V h3e.symm<|p8)
   refine hK _ h3 w' .nilslice .nilslice (fun j hj hn => ?_) (by simp only [B, xB, F, reduceLT, reduceLeDiff, reduceEqDiff, reduceAdd, reduceMul, reduceSub, ↓reduceIte, eq_self, u13]) ⟨?_, gaw.of_get (by omega) (fun c e => k3 c (nwb c e)), .none, ?_, fun c e => (by cases e), fun c e => (by cases e), by omega, fun c hc hn hn2 => by rw [k3 c hn, kk c hc hn2], fun c e => ?_, by rw [h3e, g_sts, g, o1.2]⟩
   ·repeat (rw [T.get_set, if_neg (by omega)])
    exact tt j hj hn
   ·unfold dropR; exact Z3
   ·unfold dropR; rw [qp]; exact .none
   ·rcases nw c e with q | q
    ·exact .inl q
    ·exact .inr (by omega)
  | true =>
   rw [qp] at p8
   obtain ⟨h4, h4e⟩ : ∃ h4, h4 = h3.sts b16 4 [va] := ⟨_, rfl⟩
   have Z4 := Z3.put wz3 (j := 4) (by simp) va
   rw [Nat.zero_add, ← h4e] at Z4
   have k4 : ∀ c, c ≠ b16 → h4.t.get c = h.t.get c := fun c hc => by rw [h4e, get_sts _ _ _ _ hc, k3 c hc]
   have x4 : h4.nx = h.nx:= by rw [h4e, nx_sts, x3]
   refine rN ?_ (V u0<|V u12<|V u13<|V u15<|V u16<|V u21<|V u22<|V hlv<|V di<|V z3<|V wzh<|V h3e.symm<|V p8<|V e4<|V wz3<|V v1o<|V v1c<|h4e.symm)
   refine hK _ h4 w' .nilslice va (fun j hj hn => ?_) (by simp only [B, xB, F, reduceLT, reduceLeDiff, reduceEqDiff, reduceAdd, reduceMul, reduceSub, ↓reduceIte, eq_self, u13]) ⟨?_, gaw.of_get (by omega) (fun c e => k4 c (nwb c e)), .none, ?_, fun c e => (by cases e), fun c e => ⟨(vb c e).1, nwv c e⟩, by omega, fun c hc hn hn2 => by rw [k4 c hn, kk c hc hn2], fun c e => ?_, by rw [h4e, g_sts, h3e, g_sts, g, o1.2]⟩
   ·repeat (rw [T.get_set, if_neg (by omega)])
    exact tt j hj hn
   ·unfold dropR; exact Z4
   ·have e : (dropR op l).prev = l:= by unfold dropR; rw [qp]; rfl
    rw [e]
    exact vs.move (by omega) (fun c e => by rw [k4 c (by have := vb c e; omega), kv c e])
   ·rcases nw c e with q | q
    ·exact .inl q
    ·exact .inr (by omega)
end
end Go.Proofs.Ytnedigoajoflaaa.M

namespace Go.Proofs.Ytnedigoajoflaaa.M
open Go Go.AX
noncomputable section
set_option maxRecDepth 100000
theorem dropRs_main {rev : Nat} : ∀ (l : List KV) (R : List Rec), (∀ x, x ∈ R → x.main = rev + 1) → ∀ x, x ∈ dropRs rev R l → x.main = rev + 1
 | [], R, h => h
 | y :: l, R, h => dropRs_main l (goneR rev R y) fun x hx => by
  unfold goneR at hx
  rcases List.mem_append.1 hx with q | q
  ·exact h x q
  ·rw [List.mem_singleton] at q; subst q; rfl
theorem opS_main {rev : Nat} {L R : List Rec} {op : Op} (h : ∀ x, x ∈ R → x.main = rev + 1) : ∀ x, x ∈ (opS rev L R op).2 → x.main = rev + 1 := by
 unfold opS
 split
 ·exact h
 ·split
  ·intro x hx
   rcases List.mem_append.1 hx with q | q
   ·exact h x q
   ·rw [List.mem_singleton] at q; subst q; rfl
  ·exact dropRs_main _ _ h
theorem opsS_main {rev : Nat} {L : List Rec} : ∀ (l : List Op) (i : Nat), i ≤ l.length → ∀ x, x ∈ (opsS rev L (l.take i)).2 → x.main = rev + 1
 | l, 0, _ => by rw [List.take_zero]; intro x hx; cases hx
 | l, i + 1, hi => by
  obtain ⟨o, ho⟩ : ∃ o, l[i]? = some o := ⟨_, List.getElem?_eq_getElem (by omega)⟩
  rw [opsS_s ho]
  exact opS_main (opsS_main l i (by omega))
structure RrH (h0 h : H) (b b3 b4 b5 base : Nat) (L : List Rec) (rev comp : Nat) (v : AV) (rq : List AV) (tk : Bool) (R : List Rec) (wa : AV) (xs : List RV) (rw_ : AV) : Prop where
 D : DsH h0 h b b3 b4 b5 L rev comp v rq 0 tk rw_
 ga : Grows 8 base h wa (L ++ R).length ((L ++ R).flatMap Rec.cs)
 gr : Grows 5 base h rw_ xs.length (xs.flatMap RVcs)
 ok : ∀ x, x ∈ xs → RVok h base wa rw_ x
 nw : ∀ c, blkOf rw_ = some c → blkOf wa ≠ some c
 lb : b < base
 lb3 : b3 < base
 lb4 : b4 < base
 lb5 : b5 < base
 lv : ∀ c, blkOf v = some c → c < base
 l0 : h0.nx ≤ base
 le : base ≤ h.nx
theorem DsH.move {h0 h h' : H} {b b3 b4 b5 rev comp err base : Nat} {L : List Rec} {v rw_ : AV} {rq : List AV} {tk : Bool} (d : DsH h0 h b b3 b4 b5 L rev comp v rq err tk rw_) (hx : h.nx ≤ h'.nx) (e : ∀ c, c < base → h'.t.get c = h.t.get c) (hg : h'.g = h.g) (lb : b < base) (lb3 : b3 < base) (lb4 : b4 < base) (lb5 : b5 < base) (lv : ∀ c, blkOf v = some c → c < base) (l0 : h0.nx ≤ base) : DsH h0 h' b b3 b4 b5 L rev comp v rq err tk rw_ :=
 ⟨⟨Nat.lt_of_lt_of_le d.s.lt hx, d.s.c.of_get (e b lb), by rw [wrAt_of_get (e b lb)]; exact d.s.wr, d.s.gv.of_get hx (fun c q => e c (lv c q)), .none, .inl ⟨.inl rfl, rfl, rfl⟩, d.s.nv, d.s.ns⟩, d.q.of_get (e b3 lb3), d.a.of_get (e b5 lb5), by rw [wrAt_of_get (e b5 lb5)]; exact d.w5, ⟨⟨Nat.le_trans d.oo.1.1 hx, fun c hc hn => by rw [e c (by omega)]; exact d.oo.1.2 c hc hn⟩, hg.trans d.oo.2⟩, Nat.lt_of_lt_of_le d.l3 hx, Nat.lt_of_lt_of_le d.l5 hx, d.n3, d.n5, d.nv5, d.a4.of_get (e b4 lb4), by rw [wrAt_of_get (e b4 lb4)]; exact d.w4, Nat.lt_of_lt_of_le d.l4 hx, d.n4⟩
theorem DsH.putR {h0 h : H} {b b3 b4 b5 rev comp err : Nat} {L : List Rec} {v rw_ : AV} {rq : List AV} {tk : Bool} (d : DsH h0 h b b3 b4 b5 L rev comp v rq err tk rw_) (w2 : AV) : DsH h0 (h.sts b5 4 [w2]) b b3 b4 b5 L rev comp v rq err tk w2 := by
 have k : ∀ c, c ≠ b5 → (h.sts b5 4 [w2]).t.get c = h.t.get c := fun c hc => get_sts _ _ _ _ hc
 have A := d.a.put d.w5 (j := 4) (by simp [ansC]) w2
 rw [Nat.zero_add] at A
 exact ⟨⟨by rw [nx_sts]; exact d.s.lt, d.s.c.of_get (k b d.n5), by rw [wrAt_of_get (k b d.n5)]; exact d.s.wr, d.s.gv.of_get (by rw [nx_sts]; exact Nat.le_refl _) (fun c e => k c (d.nv5 c e)), .none, .inl ⟨.inl rfl, rfl, rfl⟩, d.s.nv, d.s.ns⟩, d.q.of_get (k b3 d.n3), A, by rw [wrAt_sts]; exact d.w5, d.oo.sts (.inl (by simp)), by rw [nx_sts]; exact d.l3, by rw [nx_sts]; exact d.l5, d.n3, d.n5, d.nv5, d.a4.of_get (k b4 d.n4), by rw [wrAt_of_get (k b4 d.n4)]; exact d.w4, by rw [nx_sts]; exact d.l4, d.n4⟩
theorem opRC (hk : H) (b b15 b16 base : Nat) (L R : List Rec) (rev comp : Nat) (v wa : AV) (op : Op) (kd : Nat) (hkd : op.kind = Int.ofNat kd) (h3 : kd < 3) (cb : cellAt hk b 0 = some v) (hlen : ∀ (h' : H) (ts : List TypeId) (xs : List AV), builtinA P .len (45 :: ts) (v :: xs) h' = .val (.int .i64 (.ofNat L.length)) h') (vo : v.one = true) (lb : b < hk.nx) (nb16 : b ≠ b16) (nab : blkOf wa ≠ some b)
  (Y : CellsAt hk b15 0 op.cs) (Z : CellsAt hk b16 0 [.nilslice, .bool false, .int .i64 (.ofNat 0), .int .i64 (.ofNat 0), .nilslice]) (wz : wrAt hk b16 = true)
  (ga : Grows 8 base hk wa (L ++ R).length ((L ++ R).flatMap Rec.cs)) (l15 : b15 < hk.nx) (l16 : b16 < hk.nx) (n16 : b15 ≠ b16) (na : ∀ c, blkOf wa = some c → c ≠ b16) (na5 : ∀ c, blkOf wa = some c → c ≠ b15) (hbase : base ≤ hk.nx) (hs : Short (L ++ R)) (hz : (L ++ R).length ≤ 400000) (hw : whenO op rev comp = 0) (hR : ∀ x, x ∈ R → x.main = rev + 1)
  (tm : T AV) (t0 : tm.get 0 = some (.ptr b 0)) (t12 : tm.get 12 = some (.int .u64 (.ofNat (rev + 1)))) (t13 : tm.get 13 = some wa) (t15 : tm.get 15 = some (.ptr b15 0)) (t16 : tm.get 16 = some (.ptr b16 0)) (K : KQ)
  (hK : ∀ tm2 h2 wa' k p, (∀ j, j ≤ 16 → j ≠ 13 → tm2.get j = tm.get j) → tm2.get 13 = some wa' → OpR hk h2 b16 base L (opS rev L R op).2 (opS rev L R op).1 wa wa' k p → K .norm [] tm2 h2) :
  codeW P 22 276 none (codeI (bodyC Try.f22) [0, 1, 1, 0, 0, 1, 0, 0, 1, 0, 1, 1, 1, 1, 1, 1, 1, 1, 1, 1, 1, 1, 1, 1, 1]) [] tm hk K := by
 match kd, h3, hkd with
 | 0, _, hkd =>
  have hrv : op.rev ≤ rev := by
   unfold whenO whenR at hw
   rw [if_pos (by rw [hkd]; rfl)] at hw
   by_cases q : rev < op.rev
   ·rw [if_pos q] at hw; cases hw
   ·omega
  exact op0C hk b b15 b16 base L R rev wa op Y Z wz ga l15 l16 n16 na hkd hs (by omega) hrv hR tm t12 t13 t15 t16 K hK
 | 1, _, hkd => exact op1C hk b b15 b16 base L R rev v wa op cb hlen vo lb nb16 nab Y Z wz ga l15 l16 n16 na hbase hkd (by omega) tm t0 t12 t13 t15 t16 K hK
 | 2, _, hkd => exact op2C hk b b15 b16 base L R rev v wa op cb hlen vo lb nb16 nab Y Z wz ga l15 l16 n16 na na5 hbase hkd hs hz tm t0 t12 t13 t15 t16 K hK
structure DoI (h0 : H) (b b3 b4 b5 base : Nat) (L : List Rec) (rev comp : Nat) (v : AV) (rq : List AV) (tk : Bool) (l : List Op) (va : AV) (m : Nat) (ds : List Nat) (tm : T AV) (h : H) (i : Nat) (wa : AV) (xs : List RV) (rw_ : AV) : Prop where
 ds : ds = []
 nn : m = l.length - i
 ii : i ≤ l.length
 t0 : tm.get 0 = some (.ptr b 0)
 t4 : tm.get 4 = some (.ptr b4 0)
 t5 : tm.get 5 = some (.ptr b5 0)
 t10 : tm.get 10 = some va
 t12 : tm.get 12 = some (.int .u64 (.ofNat (rev + 1)))
 t13 : tm.get 13 = some wa
 t14 : tm.get 14 = some (.int .i64 (.ofNat i))
 hx : xs.map (·.1) = (opsS rev L (l.take i)).1
 hh : RrH h0 h b b3 b4 b5 base L rev comp v rq tk (opsS rev L (l.take i)).2 wa xs rw_
set_option maxHeartbeats 8000000 in
theorem rOpsLoop (h0 h1 : H) (b b3 b4 b5 base : Nat) (L : List Rec) (rev comp : Nat) (v : AV) (rq : List AV) (tk : Bool) (l : List Op) (va wa0 : AV) (hh : RrH h0 h1 b b3 b4 b5 base L rev comp v rq tk [] wa0 [] .nilslice) (sl : SliceAt h0 va l.length (l.flatMap Op.cs)) (nb : ∀ c, blkOf va = some c → c ≠ b5) (hz : l.length ≤ 1000000) (hs : Short L) (hzL : L.length ≤ 200000) (hlv : L.length ≤ 400000)
  (hB : ∀ i, i ≤ l.length → Short (opsS rev L (l.take i)).2 ∧ (opsS rev L (l.take i)).2.length ≤ 200000) (hk : ∀ op, op ∈ l → ∃ kd : Nat, op.kind = Int.ofNat kd ∧ kd < 3) (hw : ∀ op, op ∈ l → whenO op rev comp = 0)
  (tm : T AV) (t0 : tm.get 0 = some (.ptr b 0)) (t4 : tm.get 4 = some (.ptr b4 0)) (t5 : tm.get 5 = some (.ptr b5 0)) (t10 : tm.get 10 = some va) (t12 : tm.get 12 = some (.int .u64 (.ofNat (rev + 1)))) (t13 : tm.get 13 = some wa0) (K : KQ)
  (hK : ∀ tm2 h2 wa xs rw_, tm2.get 0 = some (.ptr b 0) → tm2.get 4 = some (.ptr b4 0) → tm2.get 5 = some (.ptr b5 0) → tm2.get 12 = some (.int .u64 (.ofNat (rev + 1))) → tm2.get 13 = some wa → xs.map (·.1) = (opsS rev L l).1 → RrH h0 h2 b b3 b4 b5 base L rev comp v rq tk (opsS rev L l).2 wa xs rw_ → K .norm [] tm2 h2) :
  codeW P 22 276 none (codeI (bodyC Try.f22) [0, 1, 1, 1, 1, 1, 1, 1, 1, 1, 1, 1, 1, 1, 1, 1]) [] tm h1 K := by
 have hlo := sl.len (P := P) u29a
 have vao := sl_one sl
 have vo := hh.D.s.gv.one
 have hlen := hh.D.s.gv.slice.len (P := P) u45a
 refine rN ?_ (V t0<|V t4<|V t5<|V t10<|V t12<|t13)
 refine st_loop (fun m ds tm h => ∃ i wa xs rw_, DoI h0 b b3 b4 b5 base L rev comp v rq tk l va m ds tm h i wa xs rw_) l.length rfl ⟨0, wa0, [], .nilslice, rfl, rfl, Nat.zero_le _, by exact sT, by exact sT, by exact sT, by exact sT, by exact sT, by exact sT, by exact sT, rfl, hh⟩ (fun m ds tm h hI => ?_)
 clear t0 t4 t5 t10 t12 t13 hh
 obtain ⟨i, wa, xs, rw_, rfl, rfl, ii, t0, t4, t5, t10, t12, t13, t14, hxs, hh⟩ := hI
 by_cases hi : i < l.length
 ·have di : decide (i < l.length) = true := decide_eq_true hi
  have lt1 : (i < l.length) = True:= by simp [hi]
  obtain ⟨x, hx⟩ : ∃ x, l[i]? = some x := ⟨_, List.getElem?_eq_getElem hi⟩
  have slh := SliceAt.only hh.D.oo.1 sl (fun c e => by simp; exact nb c e)
  obtain ⟨bv, ov, cv, rfl, hbv, -⟩ := slh.place (by omega)
  obtain ⟨q0, q1, q2, q3, q4, q5, q6, q7, q8⟩ := Op.at slh hx
  obtain ⟨h2, h2e, o2, x2, y0, y1, y2, y3, y4, y5, y6, y7, y8⟩ := opBox h x
  obtain ⟨h3, h3e, o3, x3, wz, z0, z1, z2, z3, z4⟩ := resBox h2 0
  have o23 := o2.t o3
  have w1 : wrapF .i64 (Int.ofNat i + Int.ofNat 1) = Int.ofNat (i + 1) := i64_add (by omega)
  obtain ⟨kd, hkd, hk3⟩ := hk x (List.mem_of_getElem? hx)
  have hwx := hw x (List.mem_of_getElem? hx)
  obtain ⟨hsR, hzR⟩ := hB i ii
  have hmR := opsS_main (rev := rev) (L := L) l i ii
  have hss := opsS_s (rev := rev) (L0 := L) hx
  have hxl : xs.length = i := by
   have e := congrArg List.length hxs
   rw [List.length_map] at e
   rw [e, opsS_len, List.length_take]; omega
  obtain ⟨R, hR⟩ : ∃ R, R = (opsS rev L (l.take i)).2 := ⟨_, rfl⟩
  rw [← hR] at hh hsR hzR hmR
  have D3 := hh.D.keep o23
  obtain ⟨c0, -⟩ := D3.s.c.u8
  have g1 := hh.lb
  have g3 := hh.lb3
  have g4 := hh.lb4
  have g5 := hh.lb5
  have ge := hh.le
  have hwb : ∀ c, blkOf wa = some c → base ≤ c ∧ c < h.nx := fun c e => hh.ga.base e
  have hrb : ∀ c, blkOf rw_ = some c → base ≤ c ∧ c < h.nx := fun c e => hh.gr.base e
  have Y3 := gC (show CellsAt h2 h.nx 0 x.cs from .m9 y0 y1 y2 y3 y4 y5 y6 y7 y8) o3 (by omega) (by simp)
  have Z3 : CellsAt h3 h2.nx 0 [.nilslice, .bool false, .int .i64 (.ofNat 0), .int .i64 (.ofNat 0), .nilslice] := .m5 z0 z1 z2 z3 z4
  have hsLR : Short (L ++ R) := fun r hr => by rcases List.mem_append.1 hr with q | q; exact hs r q; exact hsR r q
  have hzLR : (L ++ R).length ≤ 400000:= by rw [List.length_append]; omega
  repeat' (first | (with_reducible refine stopC [0, 1, 1, 0, 0, 1, 0, 0, 1, 0, 1, 1, 1, 1, 1, 1, 1, 1, 1, 1, 1, 1, 1, 1, 1] ?_) | ((with_reducible refine st1 ?_); (conv => whnf); (with_reducible refine ⟨?_⟩)) | ((with_reducible refine retW_intro rfl ?_); (conv => arg 2; whnf)) | ((with_reducible first | refine iB ?_ ?_ | refine gWt ?_ ?_ | refine gWf ?_ ?_) <;> intro hb <;> (try simp only [hb])) | (simp only [B, xB, F, reduceLT, reduceLeDiff, reduceEqDiff, reduceAdd, reduceMul, reduceSub, ↓reduceIte, eq_self, t0, t4, t5, t10, t12, t13, t14, hlo, vao, di, lt1, q0, q1, q2, q3, q4, q5, q6, q7, q8, h2e, h3e]))
  refine ⟨?_⟩
  refine opRC h3 b h.nx h2.nx base L R rev comp v wa x kd hkd hk3 c0 hlen vo (by omega) (by omega) (fun e => by have := hwb _ e; omega) Y3 Z3 wz (hh.ga.of_get o23.1.1 (fun c e => o23.1.2 c (hwb c e).2 (by simp))) (by omega) (by omega) (by omega) (fun c e => by have := hwb c e; omega) (fun c e => by have := hwb c e; omega) (by omega) hsLR hzLR hwx hmR _ (by exact sT) (by exact sT) (by exact sT) (by exact sT) (by exact sT) _ ?_
  intro tm2 h4 wa' k p htm u13 o
  obtain ⟨r, hre⟩ : ∃ r, r = (opS rev L R x).1 := ⟨_, rfl⟩
  obtain ⟨R2, hR2⟩ : ∃ R2, R2 = (opS rev L R x).2 := ⟨_, rfl⟩
  rw [← hre, ← hR2] at o
  have u0 : tm2.get 0 = some (.ptr b 0) := (htm 0 (by omega) (by omega)).trans (by exact sT)
  have u4 : tm2.get 4 = some (.ptr b4 0) := (htm 4 (by omega) (by omega)).trans (by exact sT)
  have u5 : tm2.get 5 = some (.ptr b5 0) := (htm 5 (by omega) (by omega)).trans (by exact sT)
  have u10 : tm2.get 10 = some (.slice bv ov l.length cv) := (htm 10 (by omega) (by omega)).trans (by exact sT)
  have u12 : tm2.get 12 = some (.int .u64 (.ofNat (rev + 1))) := (htm 12 (by omega) (by omega)).trans (by exact sT)
  have u14 : tm2.get 14 = some (.int .i64 (.ofNat i)) := (htm 14 (by omega) (by omega)).trans (by exact sT)
  have u16 : tm2.get 16 = some (.ptr h2.nx 0) := (htm 16 (by omega) (by omega)).trans (by exact sT)
  have x4 := o.nx
  have kB : ∀ c, c < base → h4.t.get c = h3.t.get c := fun c hc => o.old c (by omega) (by omega) (fun e => by have := hwb c e; omega)
  have kN : ∀ c, c < h.nx → blkOf wa ≠ some c → h4.t.get c = h.t.get c := fun c hc hn => by rw [o.old c (by omega) (by omega) hn, o23.1.2 c hc (by simp)]
  have D4 := D3.move (base := base) x4 kB o.g g1 g3 g4 g5 hh.lv hh.l0
  obtain ⟨a0, a1, a2, a3, a4, a5, a6, a7, a8⟩ := D4.a.u9
  obtain ⟨s0, s1, s2, s3, s4⟩ := CellsAt.u5 (show CellsAt h4 h2.nx 0 [k, .bool r.more, .int .i64 (.ofNat r.cnt), .int .i64 (.ofNat r.del), p] from o.z)
  have ko := sl_one o.ks
  have po := sl_one o.ps
  have gro := hh.gr.one
  obtain ⟨h5, h5e⟩ : ∃ h5, h5 = h4.newCells 72 [k, .bool r.more, .int .i64 (.ofNat r.cnt), .int .i64 (.ofNat r.del), p] := ⟨_, rfl⟩
  have o5 : Og h4 h5 []:= by rw [h5e]; exact (Og.refl _ _).new _ _
  have x5 : h5.nx = h4.nx + 1:= by rw [h5e]; rfl
  have hrow : h5.row h4.nx 0 5 = some [k, .bool r.more, .int .i64 (.ofNat r.cnt), .int .i64 (.ofNat r.del), p]:= by rw [h5e]; exact (CellsAt.new h4 72 [k, .bool r.more, .int .i64 (.ofNat r.cnt), .int .i64 (.ofNat r.del), p]).row (by simp)
  have gr5 : Grows 5 base h5 rw_ _ _ := hh.gr.of_get (by omega) (fun c e => by have := hrb c e; rw [o5.1.2 c (by omega) (by simp), kN c this.2 (hh.nw c e)])
  refine rN ?_ (V u5<|V u16<|V a4<|V s0<|V s1<|V s2<|V s3<|V s4<|V ko<|V po<|V gro<|V h5e.symm<|hrow)
  refine exW_growsG (m := 1) (new := RVcs (r, k, p)) gr5 (by omega) (by omega) (by omega) rfl (by omega) (fun v7 h7 g7 x7 old7 bl7 gg7 => ?_)
  have g7o := g7.one
  have g7c := g7.cells
  have nbr : ∀ c, c < base → blkOf rw_ ≠ some c := fun c hc e => by have := hrb c e; omega
  have D7 := (D4.keep o5).move (base := base) (h' := h7) (by omega) (fun c hc => old7 c (by omega) (nbr c hc)) gg7 g1 g3 g4 g5 hh.lv hh.l0
  obtain ⟨-, -, -, -, e4, -⟩ := D7.a.u9
  have w57 := D7.w5
  have D8 := D7.putR v7
  obtain ⟨h8, h8e⟩ : ∃ h8, h8 = h7.sts b5 4 [v7] := ⟨_, rfl⟩
  rw [← h8e] at D8
  have k8 : ∀ c, c ≠ b5 → h8.t.get c = h7.t.get c := fun c hc => by rw [h8e, get_sts _ _ _ _ hc]
  have x8 : h8.nx = h7.nx:= by rw [h8e, nx_sts]
  refine rN ?_ (V u5<|V u14<|V g7o<|V g7c<|V e4<|V w57<|V h8e.symm<|w1)
  have fz : opsS rev L (l.take (i + 1)) = ((opsS rev L (l.take i)).1 ++ [r], R2) := by
   rw [hss]; unfold opsF; rw [← hR, ← hre, ← hR2]
  have kk : ∀ c, c < h4.nx → c ≠ b5 → blkOf rw_ ≠ some c → h8.t.get c = h4.t.get c := fun c hc n1 n2 => by rw [k8 c n1, old7 c (by omega) n2, o5.1.2 c hc (by simp)]
  have w3b : ∀ c, blkOf wa' = some c → blkOf wa = some c ∨ h3.nx ≤ c := o.nw
  have w3l : ∀ c, blkOf wa' = some c → c < h4.nx := fun c e => (o.ga.base e).2
  have w3r : ∀ c, blkOf wa' = some c → blkOf rw_ ≠ some c := fun c e e2 => by
   rcases w3b c e with q | q
   ·exact hh.nw c e2 q
   ·have := hrb c e2; omega
  have kl := sl_lt o.ks
  have pl := sl_lt o.ps
  have nr : ∀ c, h3.nx ≤ c → blkOf rw_ ≠ some c := fun c hc e => by have := hrb c e; omega
  refine ⟨l.length - (i + 1), by omega, i + 1, wa', xs ++ [(r, k, p)], v7, rfl, rfl, by omega, by simp only [B, xB, F, reduceLT, reduceLeDiff, reduceEqDiff, reduceAdd, reduceMul, reduceSub, ↓reduceIte, eq_self, u0], by simp only [B, xB, F, reduceLT, reduceLeDiff, reduceEqDiff, reduceAdd, reduceMul, reduceSub, ↓reduceIte, eq_self, u4], by simp only [B, xB, F, reduceLT, reduceLeDiff, reduceEqDiff, reduceAdd, reduceMul, reduceSub, ↓reduceIte, eq_self, u5], by simp only [B, xB, F, reduceLT, reduceLeDiff, reduceEqDiff, reduceAdd, reduceMul, reduceSub, ↓reduceIte, eq_self, u10], by simp only [B, xB, F, reduceLT, reduceLeDiff, reduceEqDiff, reduceAdd, reduceMul, reduceSub, ↓reduceIte, eq_self, u12], by simp only [B, xB, F, reduceLT, reduceLeDiff, reduceEqDiff, reduceAdd, reduceMul, reduceSub, ↓reduceIte, eq_self, u13], by exact sT, by rw [fz, List.map_append, hxs]; rfl, ?_⟩
  rw [fz]
  refine ⟨D8, o.ga.of_get (by omega) (fun c e => kk c (w3l c e) (by have := o.ga.base e; omega) (w3r c e)), ?_, fun y hy => ?_, fun c e e2 => ?_, g1, g3, g4, g5, hh.lv, hh.l0, by omega⟩
  ·rw [List.length_append, List.flatMap_append, List.flatMap_singleton]
   exact g7.of_get (by omega) (fun c e => k8 c (by have := g7.base e; omega))
  ·rcases List.mem_append.1 hy with q | q
   ·refine (hh.ok y q).move (by omega) (fun c hc hc2 n1 n2 => ⟨?_, fun e => ?_, fun e => ?_⟩)
    ·rw [kk c (by omega) (by omega) n2, kN c hc2 n1]
    ·rcases w3b c e with q | q
     ·exact n1 q
     ·omega
    ·rw [bl7] at e; cases e; omega
   ·rw [List.mem_singleton] at q; subst q
    refine ⟨o.ks.move (by omega) (fun c e => kk c (kl c e) (by have := o.kb c e; omega) (nr c (o.kb c e).1)), o.ps.move (by omega) (fun c e => kk c (pl c e) (by have := o.pb c e; omega) (nr c (o.pb c e).1)), fun c e => ⟨by have := o.kb c e; omega, by have := kl c e; omega, (o.kb c e).2, fun e2 => ?_⟩, fun c e => ⟨by have := o.pb c e; omega, by have := pl c e; omega, (o.pb c e).2, fun e2 => ?_⟩⟩
    ·rw [bl7] at e2; cases e2; have := kl _ e; omega
    ·rw [bl7] at e2; cases e2; have := pl _ e; omega
  ·rw [bl7] at e; cases e; have := w3l _ e2; omega
 ·have di : decide (i < l.length) = false := decide_eq_false hi
  obtain rfl : i = l.length:= by omega
  rw [List.take_length] at hxs hh
  refine rN ?_ (V t0<|V t4<|V t5<|V t10<|V t12<|V t13<|V t14<|V hlo<|V vao<|di)
  exact hK _ _ wa xs rw_ (by exact sT) (by exact sT) (by exact sT) (by exact sT) (by exact sT) hxs hh
end
end Go.Proofs.Ytnedigoajoflaaa.M

namespace Go.Proofs.Ytnedigoajoflaaa.M
open Go Go.AX
noncomputable section
set_option maxRecDepth 100000
theorem tailR {h : H} {base n m : Nat} {wa : AV} {cs0 cs1 : List AV} (g : Grows 8 base h wa (n + m) (cs0 ++ cs1)) (hc : cs0.length = n * 8) : ∃ v2, sliceA P 45 wa (some (.int .i64 (.ofNat n))) none none = some v2 ∧ SliceAt h v2 m cs1 ∧ RowK h v2 m cs1 ∧ (∀ c, blkOf v2 = some c → blkOf wa = some c) := by
 generalize hk : n + m = k at g
 generalize hcs : cs0 ++ cs1 = cs at g
 cases g with
 | none =>
  obtain rfl : n = 0:= by omega
  obtain rfl : m = 0:= by omega
  have e1 : cs1 = [] := (List.append_eq_nil_iff.1 hcs).2
  subst e1
  exact ⟨.nilslice, by kernel_rfl, .none, .inl ⟨.inl rfl, rfl, rfl⟩, fun c e => e⟩
 | cell b k cs t ty h1 h2 h3 h4 h5 =>
  have hl1 : cs1.length = m * 8 := by
   have := congrArg List.length hcs
   rw [List.length_append] at this; omega
  have hd : cs.drop (n * 8) = cs1:= by rw [← hcs, ← hc, List.drop_left]
  have hr := grow_rowB (base := base) h2 h4 h5
  rcases Nat.eq_zero_or_pos m with q | q
  ·subst q
   have e1 : cs1 = [] := List.length_eq_zero_iff.1 (by omega)
   subst e1
   rcases Nat.eq_zero_or_pos n with q2 | q2
   ·subst q2
    subst hk
    refine ⟨.slice b 0 0 (.opn 0), ?_, .cell b 0 0 _ _ h2 (fun i hi => by simp at hi), .inr ⟨b, 0, _, rfl, h2, by rw [Nat.zero_mul]; exact row_zero hr 0, rfl⟩, fun c e => e⟩
    simp only [sliceA, u45a, show okT P 94 = true from by kernel_rfl, sliceOp, bndO, bnd, ble_t (Nat.le_refl 0), Nat.beq_refl, Nat.add_zero, Nat.sub_zero]
   ·obtain rfl : k = n:= by omega
    refine ⟨.slice0, ?_, .zero, .inl ⟨.inr rfl, rfl, rfl⟩, fun c e => by cases e⟩
    simp only [sliceA, u45a, show okT P 94 = true from by kernel_rfl, sliceOp, bndO, bnd, ble_t (Nat.le_refl k), beq_f (show k ≠ 0 by omega), ble_f (show k < k + 1 by omega)]
  ·have hs := sl_op_l (P := P) (e := 94) (size := 8) u45a (by kernel_rfl) (by kernel_rfl) b 0 k 0 n .i64 (by omega)
   have ek : k - n = m:= by omega
   rw [ek] at hs
   have hrow := hr.row (o := 0 + n * 8) (n := m * 8) (by omega) (by omega)
   rw [Nat.zero_add, hd, List.take_of_length_le (by omega)] at hrow
   refine ⟨_, hs, .cell b _ m _ _ h2 (fun i hi => ?_), .inr ⟨b, _, _, rfl, h2, by rw [Nat.zero_add]; exact hrow, hl1⟩, fun c e => e⟩
   unfold cellAt
   rw [h4]
   simp only [h5, Nat.zero_add, ← hd, List.getElem?_drop]
structure DoPost (h0 h' : H) (b : Nat) (L : List Rec) (rev comp : Nat) (v : AV) (T : Tx) (u : AV) (xs : List RV) (rw_ sv : AV) : Prop where
 u : u = .agg (ansC T.err (if T.R = [] then rev else rev + 1) comp T.tk rw_)
 hx : xs.map (·.1) = T.rs
 ok : RowOk h' rw_ xs
 s : SrAt h' b L rev comp v T.R sv 0
 oo : Og h0 h' [b]
 rb : ∀ c, blkOf rw_ = some c → h0.nx ≤ c
 xb : ∀ x, x ∈ xs → (∀ c, blkOf x.2.1 = some c → h0.nx ≤ c) ∧ (∀ c, blkOf x.2.2 = some c → h0.nx ≤ c)
theorem DoPost.bad {h0 hS h' : H} {b b4 b5 rev comp err : Nat} {L : List Rec} {v : AV} (r : RetH hS h' b b4 b5 L rev comp v err rev false .nilslice) (o : Og h0 hS [b]) (l4 : h0.nx ≤ b4) (l5 : h0.nx ≤ b5) :
  DoPost h0 h' b L rev comp v ⟨err, false, [], []⟩ (.agg (ansC err rev comp false .nilslice)) [] .nilslice .nilslice :=
 ⟨by rw [if_pos rfl], rfl, RowOk.nil _, r.s, ⟨⟨Nat.le_trans o.1.1 r.nx, fun c hc hn => by rw [r.oo c (Nat.lt_of_lt_of_le hc o.1.1) (by omega) (by omega)]; exact o.1.2 c hc hn⟩, r.g.trans o.2⟩, fun c e => (by cases e), fun x hx => (by cases hx)⟩
set_option maxHeartbeats 8000000 in
theorem doEnd (h00 h0 h : H) (b b3 b4 b5 base : Nat) (L : List Rec) (rev comp : Nat) (v : AV) (rq : List AV) (tk : Bool) (R : List Rec) (wa : AV) (xs : List RV) (rw_ : AV) (hh : RrH h0 h b b3 b4 b5 base L rev comp v rq tk R wa xs rw_) (o00 : Og h00 h0 [b]) (lb0 : b < h00.nx) (l4 : h00.nx ≤ b4) (l5 : h00.nx ≤ b5) (hv : ∀ c, blkOf v = some c → c < h00.nx)
  (tm : T AV) (t0 : tm.get 0 = some (.ptr b 0)) (t4 : tm.get 4 = some (.ptr b4 0)) (t5 : tm.get 5 = some (.ptr b5 0)) (t12 : tm.get 12 = some (.int .u64 (.ofNat (rev + 1)))) (t13 : tm.get 13 = some wa) (Q : AV → H → Prop)
  (hQ : ∀ u h' sv, DoPost h00 h' b L rev comp v ⟨0, tk, xs.map (·.1), R⟩ u xs rw_ sv → Q u h') :
  codeW P 22 276 none (codeI (bodyC Try.f22) [1, 1, 1, 1, 1, 1, 1, 1, 1, 1, 1, 1, 1, 1, 1, 1]) [] tm h (retK P Try.f22 Q) := by
 have g1 := hh.lb
 have g3 := hh.lb3
 have g4 := hh.lb4
 have g5 := hh.lb5
 have ge := hh.le
 have gl := hh.l0
 have n4 := hh.D.n4
 have n5 := hh.D.n5
 have x00 := o00.1.1
 have hwb : ∀ c, blkOf wa = some c → base ≤ c ∧ c < h.nx := fun c e => hh.ga.base e
 have hrb : ∀ c, blkOf rw_ = some c → base ≤ c ∧ c < h.nx := fun c e => hh.gr.base e
 have vo := hh.D.s.gv.one
 have wo := hh.ga.one
 have gro := hh.gr.one
 have hlen := hh.D.s.gv.slice.len (P := P) u45a
 obtain ⟨c0, c1, c2, c3, c4, c5, c6, c7⟩ := hh.D.s.c.u8
 have wr := hh.D.s.wr
 have ga := hh.ga
 rw [List.length_append, List.flatMap_append] at ga
 obtain ⟨v2, hsl, s2, k2, hv2⟩ := tailR ga (by rw [flat_len Rec.len])
 have v2o := k2.one
 have v2c := k2.cells
 have hl2 := s2.len (P := P) u45a
 have v2b : ∀ c, blkOf v2 = some c → base ≤ c ∧ c < h.nx := fun c e => hwb c (hv2 c e)
 obtain ⟨h1, h1e⟩ : ∃ h1, h1 = h.sts b 6 [v2] := ⟨_, rfl⟩
 have C1 := hh.D.s.c.put wr (j := 6) (by simp) v2
 rw [Nat.zero_add, ← h1e] at C1
 have C1' : CellsAt h1 b 0 [v, .int .u64 (.ofNat rev), .int .u64 (.ofNat comp), .int .u64 (.ofNat 0), .int .u64 (.ofNat 0), .nilslice, v2, .int .u64 (.ofNat 0)] := C1
 have wr1 : wrAt h1 b = true:= by rw [h1e, wrAt_sts]; exact wr
 have k1 : ∀ c, c ≠ b → h1.t.get c = h.t.get c := fun c hc => by rw [h1e, get_sts _ _ _ _ hc]
 have x1 : h1.nx = h.nx:= by rw [h1e, nx_sts]
 obtain ⟨-, -, -, -, -, -, i6, -⟩ := C1'.u8
 have A1 := hh.D.a.of_get (k1 b5 (by omega))
 have w51 : wrAt h1 b5 = true:= by rw [wrAt_of_get (k1 b5 (by omega))]; exact hh.D.w5
 have A41 := hh.D.a4.of_get (k1 b4 (by omega))
 have w41 : wrAt h1 b4 = true:= by rw [wrAt_of_get (k1 b4 (by omega))]; exact hh.D.w4
 obtain ⟨f0, f1, f2, f3, f4, f5, f6, f7, f8⟩ := A41.u9
 have rok : RowOk h rw_ xs := ⟨hh.gr.slice, fun x hx => ⟨(hh.ok x hx).ks, (hh.ok x hx).ps⟩⟩
 have rb1 : ∀ c, blkOf rw_ = some c → base ≤ c := fun c e => (hrb c e).1
 have rb2 : ∀ x, x ∈ xs → (∀ c, blkOf x.2.1 = some c → base ≤ c) ∧ (∀ c, blkOf x.2.2 = some c → base ≤ c) := fun x hx => ⟨fun c e => ((hh.ok x hx).kb c e).1, fun c e => ((hh.ok x hx).pb c e).1⟩
 -- what lies there in the end
 have fin : ∀ (h4 : H) (r2 : Nat), h4.nx = h.nx → (∀ c, c ≠ b → c ≠ b4 → c ≠ b5 → h4.t.get c = h.t.get c) → h4.t.get b = h1.t.get b → h4.g = h.g → (r2 = if R = [] then rev else rev + 1) → DoPost h00 h4 b L rev comp v ⟨0, tk, xs.map (·.1), R⟩ (.agg (ansC 0 r2 comp tk rw_)) xs rw_ v2 := fun h4 r2 x4 k4 kb gg er => by
  have rok4 := rok.move (h' := h4) (lo := base) (by omega) (fun c hc hc2 => k4 c (by omega) (by omega) (by omega)) rb1 rb2
  refine ⟨by rw [er], rfl, rok4, ⟨by omega, C1'.of_get kb, by rw [wrAt_of_get kb]; exact wr1, hh.D.s.gv.of_get (by omega) (fun c e => k4 c (hh.D.s.nv c e) (by have := hv c e; omega) (by have := hv c e; omega)), s2.move (by omega) (fun c e => by have := v2b c e; exact k4 c (by omega) (by omega) (by omega)), k2.move (by omega) (fun c e => by have := v2b c e; exact k4 c (by omega) (by omega) (by omega)), hh.D.s.nv, fun c e => by have := v2b c e; omega⟩, ⟨⟨by omega, fun c hc hn => ?_⟩, ?_⟩, fun c e => by have := rb1 c e; omega, fun x hx => ⟨fun c e => by have := (rb2 x hx).1 c e; omega, fun c e => by have := (rb2 x hx).2 c e; omega⟩⟩
  ·rw [k4 c (by simpa using hn) (by omega) (by omega), hh.D.oo.1.2 c (by omega) (by simp; omega)]
   exact o00.1.2 c hc hn
  ·rw [gg, hh.D.oo.2, o00.2]
 by_cases qR : R = []
 ·have dR : decide (0 < R.length) = false:= by rw [qR]; rfl
  obtain ⟨a0, a1, a2, a3, a4, a5, a6, a7, a8⟩ := A1.u9
  obtain ⟨h3, h3e⟩ : ∃ h3, h3 = h1.sts b4 0 (ansC 0 rev comp tk rw_) := ⟨_, rfl⟩
  have A3 : CellsAt h3 b4 0 (ansC 0 rev comp tk rw_):= by rw [h3e]; exact CellsAt.sts w41 _
  obtain ⟨e0, e1, e2, e3, e4, e5, e6, e7, e8⟩ := A3.u9
  have k3 : ∀ c, c ≠ b4 → h3.t.get c = h1.t.get c := fun c hc => by rw [h3e, get_sts _ _ _ _ hc]
  have f := fin h3 rev (by rw [h3e, nx_sts, x1]) (fun c h1 h2 h3 => by rw [k3 c h2, k1 c h1]) (k3 b (by omega)) (by rw [h3e, g_sts, h1e, g_sts]) (by rw [if_pos qR])
  unfold ansC at h3e
  repeat' (first | ((with_reducible refine st1 ?_); (conv => whnf); (with_reducible refine ⟨?_⟩)) | ((with_reducible refine retW_intro rfl ?_); (conv => arg 2; whnf)) | ((with_reducible first | refine iB ?_ ?_ | refine gWt ?_ ?_ | refine gWf ?_ ?_) <;> intro hb <;> (try simp only [hb])) | (simp only [B, xB, F, reduceLT, reduceLeDiff, reduceEqDiff, reduceAdd, reduceMul, reduceSub, ↓reduceIte, eq_self, t0, t4, t5, t12, t13, c0, vo, wo, hlen, @ex_sl_l, hsl, v2o, v2c, c6, wr, ← h1e, i6, hl2, dR, a0, a1, a2, a3, a4, a5, a6, a7, a8, f0, f1, f2, f3, f4, f5, f6, f7, f8, w41, gro, ← h3e, e0, e1, e2, e3, e4, e5, e6, e7, e8]))
  exact hQ _ _ _ f
 ·have dR : decide (0 < R.length) = true := decide_eq_true (List.length_pos_iff.2 qR)
  obtain ⟨h2, h2e⟩ : ∃ h2, h2 = h1.sts b5 1 [.int .u64 (.ofNat (rev + 1))] := ⟨_, rfl⟩
  have A2 := A1.put w51 (j := 1) (by simp [ansC]) (.int .u64 (.ofNat (rev + 1)))
  rw [Nat.zero_add, ← h2e] at A2
  have A2' : CellsAt h2 b5 0 (ansC 0 (rev + 1) comp tk rw_) := A2
  obtain ⟨a0, a1, a2, a3, a4, a5, a6, a7, a8⟩ := A2'.u9
  obtain ⟨-, a1', -⟩ := A1.u9
  have k2' : ∀ c, c ≠ b5 → h2.t.get c = h1.t.get c := fun c hc => by rw [h2e, get_sts _ _ _ _ hc]
  have w42 : wrAt h2 b4 = true:= by rw [wrAt_of_get (k2' b4 n4)]; exact w41
  obtain ⟨p0, p1, p2, p3, p4, p5, p6, p7, p8⟩ := (A41.of_get (k2' b4 n4)).u9
  obtain ⟨h3, h3e⟩ : ∃ h3, h3 = h2.sts b4 0 (ansC 0 (rev + 1) comp tk rw_) := ⟨_, rfl⟩
  have A3 : CellsAt h3 b4 0 (ansC 0 (rev + 1) comp tk rw_):= by rw [h3e]; exact CellsAt.sts w42 _
  obtain ⟨e0, e1, e2, e3, e4, e5, e6, e7, e8⟩ := A3.u9
  have k3 : ∀ c, c ≠ b4 → h3.t.get c = h2.t.get c := fun c hc => by rw [h3e, get_sts _ _ _ _ hc]
  have f := fin h3 (rev + 1) (by rw [h3e, nx_sts, h2e, nx_sts, x1]) (fun c h1 h2 h3 => by rw [k3 c h2, k2' c h3, k1 c h1]) (by rw [k3 b (by omega), k2' b (by omega)]) (by rw [h3e, g_sts, h2e, g_sts, h1e, g_sts]) (by rw [if_neg qR])
  unfold ansC at h3e
  repeat' (first | ((with_reducible refine st1 ?_); (conv => whnf); (with_reducible refine ⟨?_⟩)) | ((with_reducible refine retW_intro rfl ?_); (conv => arg 2; whnf)) | ((with_reducible first | refine iB ?_ ?_ | refine gWt ?_ ?_ | refine gWf ?_ ?_) <;> intro hb <;> (try simp only [hb])) | (simp only [B, xB, F, reduceLT, reduceLeDiff, reduceEqDiff, reduceAdd, reduceMul, reduceSub, ↓reduceIte, eq_self, t0, t4, t5, t12, t13, c0, vo, wo, hlen, @ex_sl_l, hsl, v2o, v2c, c6, wr, ← h1e, i6, hl2, dR, a1', w51, ← h2e, a0, a1, a2, a3, a4, a5, a6, a7, a8, p0, p1, p2, p3, p4, p5, p6, p7, p8, w42, gro, ← h3e, e0, e1, e2, e3, e4, e5, e6, e7, e8]))
  exact hQ _ _ _ f
end
end Go.Proofs.Ytnedigoajoflaaa.M

namespace Go.Proofs.Ytnedigoajoflaaa.M
open Go Go.AX
noncomputable section
set_option maxRecDepth 100000
def pairB (i k : Nat) (x y : Op) : Bool := (x.kind == .ofNat 1) && ((!decide (k = i) && (y.kind == .ofNat 1) && decide (y.key = x.key)) || ((y.kind == .ofNat 2) && liesB x.key y.key y.fin))
def Tw (l : List Op) : Prop := ∃ (i k : Nat) (x y : Op), l[i]? = some x ∧ l[k]? = some y ∧ pairB i k x y = true
structure TwI (h0 : H) (va : AV) (l : List Op) (m : Nat) (ds : List Nat) (tm : T AV) (h : H) (i : Nat) : Prop where
 ds : ds = []
 nn : m = l.length - i
 ii : i ≤ l.length
 t0 : tm.get 0 = some va
 t3 : tm.get 3 = some (.int .i64 (.ofNat i))
 no : ∀ j k x y, j < i → l[j]? = some x → l[k]? = some y → pairB j k x y = false
 oo : Og h0 h []
structure TxI (h0 : H) (va : AV) (l : List Op) (i : Nat) (x : Op) (m : Nat) (ds : List Nat) (tm : T AV) (h : H) (k : Nat) : Prop where
 ds : ds = []
 nn : m = l.length - k
 kk : k ≤ l.length
 t0 : tm.get 0 = some va
 t3 : tm.get 3 = some (.int .i64 (.ofNat i))
 t4 : tm.get 4 = some (.int .i64 (.ofNat k))
 no : ∀ j y, j < k → l[j]? = some y → pairB i j x y = false
 oo : Og h0 h []
set_option maxHeartbeats 8000000 in
theorem rTwiceC (h0 : H) (va : AV) (l : List Op) (sl : SliceAt h0 va l.length (l.flatMap Op.cs)) (hz : l.length ≤ 1000000) : PushC P (.enter 48 [va] h0) (fun v h' => ∃ b, SaysG h0 (.bool b) v h' ∧ (b = true ↔ Tw l)) := by
 have hlen := sl.len (P := P) u29a
 refine pushC_of_codeW (fn := Try.f48) (c := bodyC Try.f48) Try.func48 rfl ?_
 show codeW P 48 75 none _ _ _ _ _
 refine codeW_root ?_
 refine rN0 ?_
 refine st_loop (fun m ds tm h => ∃ i, TwI h0 va l m ds tm h i) l.length rfl ⟨0, rfl, rfl, Nat.zero_le _, by exact sT, by exact sT, fun j k x y hj => absurd hj (by omega), Og.refl _ _⟩ (fun m ds tm h hI => ?_)
 obtain ⟨i, rfl, rfl, ii, t0, t3, no, oo⟩ := hI
 by_cases hi : i < l.length
 ·have di : decide (i < l.length) = true := decide_eq_true hi
  have lt1 : (i < l.length) = True:= by simp [hi]
  obtain ⟨x, hx⟩ : ∃ x, l[i]? = some x := ⟨_, List.getElem?_eq_getElem hi⟩
  have wi : wrapF .i64 (Int.ofNat i + Int.ofNat 1) = Int.ofNat (i + 1) := i64_add (by omega)
  refine rN ?_ (V t0<|V t3<|V hlen<|di)
  refine st_loop (fun m ds tm h => ∃ k, TxI h0 va l i x m ds tm h k) l.length rfl ⟨0, rfl, rfl, Nat.zero_le _, by exact sT, by exact sT, by exact sT, fun j y hj => absurd hj (by omega), oo⟩ (fun m ds tm h hI => ?_)
  clear t0 t3 oo
  obtain ⟨k, rfl, rfl, kk, t0, t3, t4, no2, oo⟩ := hI
  have slh := SliceAt.only oo.1 sl (fun _ _ => by simp)
  have next : (∀ y k, l[k]? = some y → pairB i k x y = false) → ∀ j k x' y, j < i + 1 → l[j]? = some x' → l[k]? = some y → pairB j k x' y = false := fun hA j k' x' y hj h1 h2 => by
   by_cases e : j < i
   ·exact no j k' x' y e h1 h2
   ·obtain rfl : j = i:= by omega
    rw [hx] at h1; cases h1; exact hA y k' h2
  have slh2 := slh
  obtain ⟨bv, ov, cv, rfl, hbv, -⟩ := sl.place (by omega)
  obtain ⟨q0, q1, q2, q3, q4, q5, q6, q7, q8⟩ := Op.at slh hx
  by_cases hk : k < l.length
  ·have dk : decide (k < l.length) = true := decide_eq_true hk
   have lt2 : (k < l.length) = True:= by simp [hk]
   obtain ⟨y, hy⟩ : ∃ y, l[k]? = some y := ⟨_, List.getElem?_eq_getElem hk⟩
   obtain ⟨p0, p1, p2, p3, p4, p5, p6, p7, p8⟩ := Op.at slh hy
   have wk : wrapF .i64 (Int.ofNat k + Int.ofNat 1) = Int.ofNat (k + 1) := i64_add (by omega)
   cases e1 : x.kind == .ofNat 1 with
   | false =>
    refine rN ?_ (V t0<|V t3<|V t4<|V hlen<|V dk<|V lt1<|V q0<|V e1<|wi)
    refine ⟨l.length - (i + 1), by omega, i + 1, rfl, rfl, by omega, by exact sT, by exact sT, next (fun y k h => by unfold pairB; rw [e1]; rfl), oo⟩
   | true =>
    have yes : pairB i k x y = true → Tw l := fun h => ⟨i, k, x, y, hx, hy, h⟩
    have ee : pairB i k x y = ((!decide (k = i) && (y.kind == .ofNat 1) && decide (y.key = x.key)) || ((y.kind == .ofNat 2) && liesB x.key y.key y.fin)):= by unfold pairB; rw [e1]; rfl
    have step : ∀ tm2 : T AV, pairB i k x y = false → tm2.get 0 = some (AV.slice bv ov l.length cv) → tm2.get 3 = some (.int .i64 (.ofNat i)) → tm2.get 4 = some (.int .i64 (.ofNat (k + 1))) → ∀ h6, Og h0 h6 [] → ∃ m, m < l.length - k ∧ ∃ k, TxI h0 (AV.slice bv ov l.length cv) l i x m [] tm2 h6 k := fun tm2 ef g0 g3 g4 h6 o6 =>
     ⟨l.length - (k + 1), by omega, k + 1, rfl, rfl, by omega, g0, g3, g4, fun j y' hj hy' => by
      by_cases e : j < k
      ·exact no2 j y' e hy'
      ·obtain rfl : j = k:= by omega
       rw [hy] at hy'; cases hy'; exact ef, o6⟩
    by_cases hki : k = i
    ·have dki : decide (k = i) = true := decide_eq_true hki
     cases e4 : y.kind == .ofNat 2 with
     | false =>
      have ef : pairB i k x y = false:= by rw [ee]; simp only [dki, e4, Bool.not_true, Bool.not_false, Bool.false_and, Bool.true_and, Bool.and_false, Bool.and_true, Bool.or_false, Bool.false_or, Bool.or_true, Bool.true_or]
      refine rT ?_ (V t0<|V t3<|V t4<|V hlen<|V dk<|V lt1<|V lt2<|V q0<|V q1<|V q2<|V q3<|V e1<|V p0<|V p1<|V p2<|V p3<|V @Bool.not_true<|V @Bool.not_false<|V wk<|V dki<|e4)
      exact step _ ef (by exact sT) (by exact sT) (by exact sT) _ oo
     | true =>
      refine rT ?_ (V t0<|V t3<|V t4<|V hlen<|V dk<|V lt1<|V lt2<|V q0<|V q1<|V q2<|V q3<|V e1<|V p0<|V p1<|V p2<|V p3<|V @Bool.not_true<|V @Bool.not_false<|V wk<|V dki<|e4)
      refine ((inC h x.key y.key y.fin).call P).mono P ?_
      rintro _ h6 ⟨rfl, o6⟩
      have slh6 := SliceAt.only o6.1 slh2 (fun _ _ => by simp)
      obtain ⟨q0', q1', q2', q3', q4', q5', q6', q7', q8'⟩ := Op.at slh6 hx
      obtain ⟨p0', p1', p2', p3', p4', p5', p6', p7', p8'⟩ := Op.at slh6 hy
      cases e5 : liesB x.key y.key y.fin with
      | false =>
       have ef : pairB i k x y = false:= by rw [ee]; simp only [dki, e4, e5, Bool.not_true, Bool.not_false, Bool.false_and, Bool.true_and, Bool.and_false, Bool.and_true, Bool.or_false, Bool.false_or, Bool.or_true, Bool.true_or]
       refine rT ?_ (V t0<|V t3<|V t4<|V hlen<|V dk<|V lt1<|V lt2<|V q0<|V q1<|V q2<|V q3<|V e1<|V p0<|V p1<|V p2<|V p3<|V @Bool.not_true<|V @Bool.not_false<|V wk<|V q0'<|V q1'<|V q2'<|V q3'<|V p0'<|V p1'<|V p2'<|V p3'<|V dki<|e4)
       exact step _ ef (by exact sT) (by exact sT) (by exact sT) _ (oo.t o6)
      | true =>
       have et : pairB i k x y = true:= by rw [ee]; simp only [dki, e4, e5, Bool.not_true, Bool.not_false, Bool.false_and, Bool.true_and, Bool.and_false, Bool.and_true, Bool.or_false, Bool.false_or, Bool.or_true, Bool.true_or]
       refine rT ?_ (V t0<|V t3<|V t4<|V hlen<|V dk<|V lt1<|V lt2<|V q0<|V q1<|V q2<|V q3<|V e1<|V p0<|V p1<|V p2<|V p3<|V @Bool.not_true<|V @Bool.not_false<|V wk<|V q0'<|V q1'<|V q2'<|V q3'<|V p0'<|V p1'<|V p2'<|V p3'<|V dki<|e4)
       exact ⟨true, ⟨rfl, oo.t o6⟩, fun _ => yes et, fun _ => rfl⟩
    ·have dki : decide (k = i) = false := decide_eq_false hki
     cases e2 : y.kind == .ofNat 1 with
     | false =>
      cases e4 : y.kind == .ofNat 2 with
      | false =>
       have ef : pairB i k x y = false:= by rw [ee]; simp only [dki, e2, e4, Bool.not_true, Bool.not_false, Bool.false_and, Bool.true_and, Bool.and_false, Bool.and_true, Bool.or_false, Bool.false_or, Bool.or_true, Bool.true_or]
       refine rT ?_ (V t0<|V t3<|V t4<|V hlen<|V dk<|V lt1<|V lt2<|V q0<|V q1<|V q2<|V q3<|V e1<|V p0<|V p1<|V p2<|V p3<|V @Bool.not_true<|V @Bool.not_false<|V wk<|V dki<|V e2<|e4)
       exact step _ ef (by exact sT) (by exact sT) (by exact sT) _ oo
      | true =>
       refine rT ?_ (V t0<|V t3<|V t4<|V hlen<|V dk<|V lt1<|V lt2<|V q0<|V q1<|V q2<|V q3<|V e1<|V p0<|V p1<|V p2<|V p3<|V @Bool.not_true<|V @Bool.not_false<|V wk<|V dki<|V e2<|e4)
       refine ((inC h x.key y.key y.fin).call P).mono P ?_
       rintro _ h6 ⟨rfl, o6⟩
       have slh6 := SliceAt.only o6.1 slh2 (fun _ _ => by simp)
       obtain ⟨q0', q1', q2', q3', q4', q5', q6', q7', q8'⟩ := Op.at slh6 hx
       obtain ⟨p0', p1', p2', p3', p4', p5', p6', p7', p8'⟩ := Op.at slh6 hy
       cases e5 : liesB x.key y.key y.fin with
       | false =>
        have ef : pairB i k x y = false:= by rw [ee]; simp only [dki, e2, e4, e5, Bool.not_true, Bool.not_false, Bool.false_and, Bool.true_and, Bool.and_false, Bool.and_true, Bool.or_false, Bool.false_or, Bool.or_true, Bool.true_or]
        refine rT ?_ (V t0<|V t3<|V t4<|V hlen<|V dk<|V lt1<|V lt2<|V q0<|V q1<|V q2<|V q3<|V e1<|V p0<|V p1<|V p2<|V p3<|V @Bool.not_true<|V @Bool.not_false<|V wk<|V q0'<|V q1'<|V q2'<|V q3'<|V p0'<|V p1'<|V p2'<|V p3'<|V dki<|V e2<|e4)
        exact step _ ef (by exact sT) (by exact sT) (by exact sT) _ (oo.t o6)
       | true =>
        have et : pairB i k x y = true:= by rw [ee]; simp only [dki, e2, e4, e5, Bool.not_true, Bool.not_false, Bool.false_and, Bool.true_and, Bool.and_false, Bool.and_true, Bool.or_false, Bool.false_or, Bool.or_true, Bool.true_or]
        refine rT ?_ (V t0<|V t3<|V t4<|V hlen<|V dk<|V lt1<|V lt2<|V q0<|V q1<|V q2<|V q3<|V e1<|V p0<|V p1<|V p2<|V p3<|V @Bool.not_true<|V @Bool.not_false<|V wk<|V q0'<|V q1'<|V q2'<|V q3'<|V p0'<|V p1'<|V p2'<|V p3'<|V dki<|V e2<|e4)
        exact ⟨true, ⟨rfl, oo.t o6⟩, fun _ => yes et, fun _ => rfl⟩
     | true =>
      by_cases e3 : y.key = x.key
      ·have d3 : decide (y.key = x.key) = true := decide_eq_true e3
       have et : pairB i k x y = true:= by rw [ee]; simp only [dki, e2, d3, Bool.not_true, Bool.not_false, Bool.false_and, Bool.true_and, Bool.and_false, Bool.and_true, Bool.or_false, Bool.false_or, Bool.or_true, Bool.true_or]
       refine rT ?_ (V t0<|V t3<|V t4<|V hlen<|V dk<|V lt1<|V lt2<|V q0<|V q1<|V q2<|V q3<|V e1<|V p0<|V p1<|V p2<|V p3<|V @Bool.not_true<|V @Bool.not_false<|V wk<|V dki<|V e2<|d3)
       exact ⟨true, ⟨rfl, oo⟩, fun _ => yes et, fun _ => rfl⟩
      ·have d3 : decide (y.key = x.key) = false := decide_eq_false e3
       cases e4 : y.kind == .ofNat 2 with
       | false =>
        have ef : pairB i k x y = false:= by rw [ee]; simp only [dki, e2, d3, e4, Bool.not_true, Bool.not_false, Bool.false_and, Bool.true_and, Bool.and_false, Bool.and_true, Bool.or_false, Bool.false_or, Bool.or_true, Bool.true_or]
        refine rT ?_ (V t0<|V t3<|V t4<|V hlen<|V dk<|V lt1<|V lt2<|V q0<|V q1<|V q2<|V q3<|V e1<|V p0<|V p1<|V p2<|V p3<|V @Bool.not_true<|V @Bool.not_false<|V wk<|V dki<|V e2<|V d3<|e4)
        exact step _ ef (by exact sT) (by exact sT) (by exact sT) _ oo
       | true =>
        refine rT ?_ (V t0<|V t3<|V t4<|V hlen<|V dk<|V lt1<|V lt2<|V q0<|V q1<|V q2<|V q3<|V e1<|V p0<|V p1<|V p2<|V p3<|V @Bool.not_true<|V @Bool.not_false<|V wk<|V dki<|V e2<|V d3<|e4)
        refine ((inC h x.key y.key y.fin).call P).mono P ?_
        rintro _ h6 ⟨rfl, o6⟩
        have slh6 := SliceAt.only o6.1 slh2 (fun _ _ => by simp)
        obtain ⟨q0', q1', q2', q3', q4', q5', q6', q7', q8'⟩ := Op.at slh6 hx
        obtain ⟨p0', p1', p2', p3', p4', p5', p6', p7', p8'⟩ := Op.at slh6 hy
        cases e5 : liesB x.key y.key y.fin with
        | false =>
         have ef : pairB i k x y = false:= by rw [ee]; simp only [dki, e2, d3, e4, e5, Bool.not_true, Bool.not_false, Bool.false_and, Bool.true_and, Bool.and_false, Bool.and_true, Bool.or_false, Bool.false_or, Bool.or_true, Bool.true_or]
         refine rT ?_ (V t0<|V t3<|V t4<|V hlen<|V dk<|V lt1<|V lt2<|V q0<|V q1<|V q2<|V q3<|V e1<|V p0<|V p1<|V p2<|V p3<|V @Bool.not_true<|V @Bool.not_false<|V wk<|V q0'<|V q1'<|V q2'<|V q3'<|V p0'<|V p1'<|V p2'<|V p3'<|V dki<|V e2<|V d3<|e4)
         exact step _ ef (by exact sT) (by exact sT) (by exact sT) _ (oo.t o6)
        | true =>
         have et : pairB i k x y = true:= by rw [ee]; simp only [dki, e2, d3, e4, e5, Bool.not_true, Bool.not_false, Bool.false_and, Bool.true_and, Bool.and_false, Bool.and_true, Bool.or_false, Bool.false_or, Bool.or_true, Bool.true_or]
         refine rT ?_ (V t0<|V t3<|V t4<|V hlen<|V dk<|V lt1<|V lt2<|V q0<|V q1<|V q2<|V q3<|V e1<|V p0<|V p1<|V p2<|V p3<|V @Bool.not_true<|V @Bool.not_false<|V wk<|V q0'<|V q1'<|V q2'<|V q3'<|V p0'<|V p1'<|V p2'<|V p3'<|V dki<|V e2<|V d3<|e4)
         exact ⟨true, ⟨rfl, oo.t o6⟩, fun _ => yes et, fun _ => rfl⟩
  ·have dk : decide (k < l.length) = false := decide_eq_false hk
   obtain rfl : k = l.length:= by omega
   refine rN ?_ (V t0<|V t3<|V t4<|V hlen<|V dk<|wi)
   refine ⟨l.length - (i + 1), by omega, i + 1, rfl, rfl, by omega, by exact sT, by exact sT, next (fun y k h => no2 k y (List.getElem?_eq_some_iff.1 h).1 h), oo⟩
 ·have di : decide (i < l.length) = false := decide_eq_false hi
  obtain rfl : i = l.length:= by omega
  refine rN ?_ (V t0<|V t3<|V hlen<|di)
  refine ⟨false, ⟨rfl, oo⟩, ⟨fun h => (by cases h), fun ⟨j, k, x, y, h1, h2, h3⟩ => ?_⟩⟩
  rw [no j k x y (List.getElem?_eq_some_iff.1 h1).1 h1 h2] at h3; exact h3
end
end Go.Proofs.Ytnedigoajoflaaa.M

namespace Go.Proofs.Ytnedigoajoflaaa.M
open Go Go.AX
noncomputable section
set_option maxRecDepth 100000
theorem firstW_all {rev comp : Nat} : ∀ {l : List Op}, firstW rev comp l = 0 → ∀ o, o ∈ l → whenO o rev comp = 0
 | [], _, o, h => by cases h
 | a :: l, hf, o, h => by
  unfold firstW at hf
  by_cases q : whenO a rev comp = 0
  ·rw [if_pos q] at hf
   rcases List.mem_cons.1 h with rfl | h
   ·exact q
   ·exact firstW_all hf o h
  ·rw [if_neg q] at hf; exact absurd hf q
def TwEq (l : List Op) : Prop := Tw l ↔ TwP l
set_option maxHeartbeats 8000000 in
theorem doC (h0 : H) (b : Nat) (L : List Rec) (rev comp : Nat) (v : AV) (S : List Rec) (sv : AV) (at1 : Nat) (s : SrAt h0 b L rev comp v S sv at1) (r : Rq) (vc vt ve : AV) (ra : RqAt h0 r vc vt ve) (hnb : blkOf vc ≠ some b ∧ blkOf vt ≠ some b ∧ blkOf ve ≠ some b)
  (hm : ∀ x, x ∈ L → x.main ≤ rev) (hr : rev ≤ 1000000) (hs : Short L) (hzL : L.length ≤ 200000) (htw : ∀ tk, TwEq (brV r tk))
  (hB : ∀ tk i, i ≤ (brV r tk).length → Short (opsS rev L ((brV r tk).take i)).2 ∧ (opsS rev L ((brV r tk).take i)).2.length ≤ 200000) :
  PushC P (.enter 22 [.ptr b 0, .agg (r.cs vc vt ve)] h0) fun u h' => ∃ xs rw_ sv', DoPost h0 h' b L rev comp v (txnS rev comp L r) u xs rw_ sv' := by
 have oc := sl_one ra.sc
 have ot := sl_one ra.st
 have oe := sl_one ra.se
 have lb := s.lt
 have hv0 : ∀ c, blkOf v = some c → c < h0.nx := fun c e => (s.gv.base e).2
 have hsv : ∀ c, blkOf sv = some c → c < h0.nx := sl_lt s.ss
 have bx := rqAll h0 r vc vt ve oc ot oe
 obtain ⟨h1, h1e⟩ : ∃ h1, h1 = h0.newCells 31 (r.cs vc vt ve) := ⟨_, rfl⟩
 rw [← h1e] at bx
 have o1 : Og h0 h1 []:= by rw [h1e]; exact (Og.refl _ _).new _ _
 have x1 : h1.nx = h0.nx + 1:= by rw [h1e]; rfl
 have Y1 : CellsAt h1 h0.nx 0 (r.cs vc vt ve):= by rw [h1e]; exact CellsAt.new _ _ _
 obtain ⟨h2, h2e, o2, x2, w42, A2⟩ := ansNew h1
 have o12 := o1.t o2
 have s2 := s.keep o12
 have Y2 := gC Y1 o2 (by omega) (by simp)
 obtain ⟨c0, c1, c2, c3, c4, c5, c6, c7⟩ := s2.c.u8
 have wr2 := s2.wr
 obtain ⟨h3, h3e⟩ : ∃ h3, h3 = (h2.sts b 6 [.nilslice]).sts b 7 [.int .u64 (.ofNat 0)] := ⟨_, rfl⟩
 have C3 := (s2.c.put wr2 (j := 6) (by simp) .nilslice).put (by rw [wrAt_sts]; exact wr2) (j := 7) (by simp) (.int .u64 (.ofNat 0))
 rw [Nat.zero_add, Nat.zero_add, ← h3e] at C3
 have C3' : CellsAt h3 b 0 [v, .int .u64 (.ofNat rev), .int .u64 (.ofNat comp), .int .u64 (.ofNat 0), .int .u64 (.ofNat 0), .nilslice, .nilslice, .int .u64 (.ofNat 0)] := C3
 have w3 : wrAt h3 b = true:= by rw [h3e, wrAt_sts, wrAt_sts]; exact wr2
 have k3 : ∀ c, c ≠ b → h3.t.get c = h2.t.get c := fun c hc => by rw [h3e, get_sts _ _ _ _ hc, get_sts _ _ _ _ hc]
 have x3 : h3.nx = h2.nx:= by rw [h3e, nx_sts, nx_sts]
 have s3 : SrAt h3 b L rev comp v [] .nilslice 0 := ⟨by omega, C3', w3, s2.gv.of_get (by omega) (fun c e => k3 c (s.nv c e)), .none, .inl ⟨.inl rfl, rfl, rfl⟩, s.nv, fun c e => by cases e⟩
 have o03 : Og h0 h3 [b]:= by rw [h3e]; exact (((o12.s1 (Og.refl h2 [b])).sts (.inl (by simp))).sts (.inl (by simp)))
 obtain ⟨i0, i1, i2, i3, i4, i5, i6, i7⟩ := C3'.u8
 have A3 := A2.of_get (k3 h1.nx (by omega))
 have w43 : wrAt h3 h1.nx = true:= by rw [wrAt_of_get (k3 h1.nx (by omega))]; exact w42
 have Y3 := Y2.of_get (k3 h0.nx (by omega))
 obtain ⟨h4, h4e⟩ : ∃ h4, h4 = (h3.newCells 38 [.int .i64 (.ofNat 0), .int .u64 (.ofNat 0), .int .u64 (.ofNat 0), .bool false, .nilslice, .int .u32 (.ofNat 0), .int .u64 (.ofNat 0), .int .u64 (.ofNat 0), .int .i64 (.ofNat 0)]).sts h3.nx 0 (ansC 0 rev comp false .nilslice) := ⟨_, rfl⟩
 have o4 : Og h3 h4 []:= by rw [h4e]; exact ((Og.refl _ _).new _ _).sts (.inr (Nat.le_refl _))
 have x4 : h4.nx = h3.nx + 1:= by rw [h4e, nx_sts, nx_new]
 have A54 : CellsAt h4 h3.nx 0 (ansC 0 rev comp false .nilslice):= by rw [h4e]; exact CellsAt.box _ _ _ _
 have w54 : wrAt h4 h3.nx = true:= by rw [h4e]; exact wr_box _ _ _ _
 have D4 : DsH h4 h4 b h0.nx h1.nx h3.nx L rev comp v (r.cs vc vt ve) 0 false .nilslice :=
  ⟨s3.keep o4, gC Y3 o4 (by omega) (by simp), A54, w54, Og.refl _ _, by omega, by omega, by omega, by omega, fun c e => by have := hv0 c e; omega, gC A3 o4 (by omega) (by simp), kw w43 o4 (by omega) (by simp), by omega, by omega⟩
 have o04 : Og h0 h4 [b] := ⟨⟨by have := o03.1.1; omega, fun c hc hn => by rw [o4.1.2 c (by omega) (by simp)]; exact o03.1.2 c hc hn⟩, o4.2.trans o03.2⟩
 have nbV : ∀ (w : AV) (n : Nat) (cs : List AV), SliceAt h0 w n cs → blkOf w ≠ some b → SliceAt h4 w n cs := fun w n cs sl hn => sl.move o04.1.1 (fun c e => o04.1.2 c (sl_lt sl c e) (by simp; intro q; subst q; exact hn e))
 have n1 : (b = h3.nx) = False:= by simp; omega
 have ra4 : RqAt h4 r vc vt ve := ⟨nbV vc _ _ ra.sc hnb.1, nbV vt _ _ ra.st hnb.2.1, nbV ve _ _ ra.se hnb.2.2, ra.zc, ra.zt, ra.ze⟩
 have hvc : ∀ c, blkOf vc = some c → c < h0.nx := sl_lt ra.sc
 have hvt : ∀ c, blkOf vt = some c → c < h0.nx := sl_lt ra.st
 have hve : ∀ c, blkOf ve = some c → c < h0.nx := sl_lt ra.se
 obtain ⟨q0, q1, q2, q3, q4, q5, q6, q7⟩ := D4.q.u8
 unfold ansC at h4e
 have hb4 : b ≠ h1.nx:= by omega
 have hv4 : ∀ c, blkOf v = some c → c ≠ h1.nx := fun c e => by have := hv0 c e; omega
 -- an error is returned
 have bad : ∀ (hE : H) (e : Nat), RetH h4 hE b h1.nx h3.nx L rev comp v e rev false .nilslice → txnS rev comp L r = ⟨e, false, [], []⟩ → ∃ xs rw_ sv', DoPost h0 hE b L rev comp v (txnS rev comp L r) (.agg (ansC e rev comp false .nilslice)) xs rw_ sv' := fun hE e rt et => by
  rw [et]
  exact ⟨[], .nilslice, .nilslice, DoPost.bad rt o04 (by omega) (by omega)⟩
 refine pushC_of_codeW (fn := Try.f22) (c := bodyC Try.f22) Try.func22 rfl ?_
 show codeW P 22 276 none _ _ _ _ _
 refine codeW_root ?_
 repeat' (first | ((with_reducible refine st1 ?_); (conv => whnf); (with_reducible refine ⟨?_⟩)) | ((with_reducible refine st_dp ord22_0 ?_ rfl rfl ?_); exact rfl; (conv => arg 4; whnf); (conv => arg 3; whnf)) | ((with_reducible refine st_dp ord22_1 ?_ rfl rfl ?_); exact rfl; (conv => arg 4; whnf); (conv => arg 3; whnf)) | ((with_reducible refine st_dp ord22_2 ?_ rfl rfl ?_); exact rfl; (conv => arg 4; whnf); (conv => arg 3; whnf)) | ((with_reducible refine st_dw ?_ rfl rfl ?_ ?_); exact rfl; kernel_rfl; (conv => arg 5; whnf); (conv => arg 3; whnf)) | ((with_reducible refine retW_intro rfl ?_); (conv => arg 2; whnf)) | ((with_reducible first | refine iB ?_ ?_ | refine gWt ?_ ?_ | refine gWf ?_ ?_ | refine gXt ?_ ?_ | refine gXf ?_ ?_) <;> intro hb <;> (try simp only [hb])) | ((with_reducible show drawP _ _ _ _ _ _ _ _ _); first | ((with_reducible apply kP_rd); exact rfl; exact rfl) | ((with_reducible apply kP_rg); exact rfl; exact rfl; exact rfl) | ((with_reducible apply kP_cv); exact rfl; exact rfl; kernel_rfl) | ((with_reducible apply kP_al); exact rfl; exact rfl; exact rfl) | ((with_reducible apply kP_fl); exact rfl; exact rfl; exact rfl) | ((with_reducible apply kP_ex); exact rfl; exact rfl; kernel_rfl; exact rfl) | ((with_reducible apply kP_eg); exact rfl; exact rfl; kernel_rfl; exact rfl) | ((with_reducible refine kP_nl ?_ ?_))) | ((with_reducible show drawI _ _ _ _ _ _ _ _ _); first | ((with_reducible refine kI_rd ?_ ?_); exact rfl) | ((with_reducible apply kI_rg); exact rfl; exact rfl) | ((with_reducible refine kI_cv ?_ ?_ ?_); exact rfl; kernel_rfl) | ((with_reducible apply kI_al); exact rfl; exact rfl) | ((with_reducible refine kI_ex ?_ ?_ ?_ ?_ ?_); exact rfl; kernel_rfl; exact rfl) | ((with_reducible apply kI_eg); exact rfl; kernel_rfl; exact rfl) | ((with_reducible refine kI_nl ?_ ?_))) | ((with_reducible show eOk _ _ _ _ _ _); first | (exact eok_nil) | (refine ke_rd ?_ ?_ ?_; exact rfl) | (apply ke_rg; exact rfl; exact rfl) | (refine ke_cv ?_ ?_ ?_ ?_; exact rfl; kernel_rfl) | (apply ke_fl; exact rfl) | (apply ke_al; exact rfl; exact rfl)) | ((with_reducible refine freshIs_new ?_); kernel_rfl) | (simp only [B, xB, F, reduceLT, reduceLeDiff, reduceEqDiff, reduceAdd, reduceMul, reduceSub, ↓reduceIte, eq_self, bx, h2e, c6, c7, wr2, ← h3e, i1, i2, n1, ← h4e, q0, q1, q2, q3, q4, q5, q6, q7, oc, ot, oe]))
 refine ((rCheckRC h4 r vc vt ve ra4).call P).mono P ?_
 rintro _ h5 ⟨rfl, o5⟩
 have D5 := D4.keep o5
 obtain ⟨e, he⟩ : ∃ e, e = checkR r := ⟨_, rfl⟩
 rw [← he]
 -- an error is put and returned
 by_cases qe : e = 0
 ·have de : decide (e = 0) = true := decide_eq_true qe
  subst qe
  have hck : checkR r = 0 := he.symm
  repeat' (first | (with_reducible refine stopC [0, 1, 1, 1, 1, 1, 1] ?_) | ((with_reducible refine st1 ?_); (conv => whnf); (with_reducible refine ⟨?_⟩)) | ((with_reducible refine retW_intro rfl ?_); (conv => arg 2; whnf)) | ((with_reducible first | refine iB ?_ ?_ | refine gWt ?_ ?_ | refine gWf ?_ ?_) <;> intro hb <;> (try simp only [hb])) | (simp only [B, xB, F, reduceLT, reduceLeDiff, reduceEqDiff, reduceAdd, reduceMul, reduceSub, ↓reduceIte, eq_self, de, Bool.not_true]))
  refine ⟨?_⟩
  refine cmpsLoop h4 h5 b h0.nx h1.nx h3.nx L rev comp v r vc vt ve D5 ra4.sc ra.zc (by omega) (fun c e => by have := hvc c e; omega) _ (by exact sT) (by exact sT) (by exact sT) (by exact sT) (by exact sT) _ ?_
  intro tm2 h6 g0 g3 g4 g5 g6 D6
  obtain ⟨tk, htk⟩ : ∃ tk, tk = tkB rev L r := ⟨_, rfl⟩
  have htk2 : (!r.cmps.any (failsB (atV rev L))) = tk := htk.symm
  rw [htk2] at g6
  obtain ⟨p0, p1, p2, p3, p4, p5, p6, p7⟩ := D6.q.u8
  have k6 : ∀ c, c < h4.nx → c ≠ h3.nx → h6.t.get c = h4.t.get c := fun c hc hn => D6.oo.1.2 c hc (by simp [hn])
  have x6 := D6.oo.1.1
  obtain ⟨va, hva, sva, zva, ova⟩ : ∃ va, va = (if tk then vt else ve) ∧ SliceAt h4 va (brV r tk).length ((brV r tk).flatMap Op.cs) ∧ (brV r tk).length ≤ 1000000 ∧ va.one = true := by
   refine ⟨_, rfl, ?_⟩
   unfold brV
   cases tk
   ·exact ⟨ra4.se, ra.ze, oe⟩
   ·exact ⟨ra4.st, ra.zt, ot⟩
  have hvab : ∀ c, blkOf va = some c → c < h0.nx := fun c e => by
   rw [hva] at e
   cases tk
   ·exact hve c e
   ·exact hvt c e
  have rest : ∀ tm : T AV, tm.get 0 = some (.ptr b 0) → tm.get 4 = some (.ptr h1.nx 0) → tm.get 5 = some (.ptr h3.nx 0) → tm.get 6 = some (.bool tk) → tm.get 10 = some va →
    codeW P 22 276 none (codeI (bodyC Try.f22) [1, 1, 1, 1, 1, 1, 1, 1, 1]) [] tm h6 (retK P Try.f22 fun u h' => ∃ xs rw_ sv', DoPost h0 h' b L rev comp v (txnS rev comp L r) u xs rw_ sv') := by
   clear g0 g3 g4 g5 g6
   intro tm t0 t4 t5 t6 t10
   have sv6 := sva.move x6 (fun c e => k6 c (by have := hvab c e; omega) (by have := hvab c e; omega))
   refine rN ?_ (V t0<|V t4<|V t5<|V t6<|t10)
   refine ((rTwiceC h6 va (brV r tk) sv6 zva).call P).mono P ?_
   rintro _ h7 ⟨bt, ⟨rfl, o7⟩, hb⟩
   have D7 := D6.keep o7
   have ebt : bt = twB (brV r tk):= by rw [Bool.eq_iff_iff, hb, twB_iff]; exact htw tk
   cases bt with
   | true =>
    have et : txnS rev comp L r = ⟨12, false, [], []⟩:= by unfold txnS; rw [if_pos hck, ← htk, ← ebt]; rfl
    have D8 := D7.put 12
    obtain ⟨h8, h8e⟩ : ∃ h8, h8 = h7.sts h3.nx 0 [.int .i64 (.ofNat 12)] := ⟨_, rfl⟩
    rw [← h8e] at D8
    obtain ⟨a0, -⟩ := D7.a.u9
    have w5 := D7.w5
    obtain ⟨b0, b1, b2, b3', b4', b5', b6, b7, b8⟩ := D8.a.u9
    obtain ⟨f0, f1, f2, f3, f4, f5, f6, f7, f8⟩ := D8.a4.u9
    have w4 := D8.w4
    obtain ⟨h9, h9e⟩ : ∃ h9, h9 = h8.sts h1.nx 0 (ansC 12 rev comp false .nilslice) := ⟨_, rfl⟩
    have rt := D8.ret h9e hb4 hv4
    obtain ⟨u0, u1, u2, u3, u4, u5, u6, u7, u8⟩ := rt.a4.u9
    unfold ansC at h9e
    refine rN ?_ (V t4<|V t5<|V a0<|V w5<|V h8e.symm<|V b0<|V b1<|V b2<|V b3'<|V b4'<|V b5'<|V b6<|V b7<|V b8<|V f0<|V f1<|V f2<|V f3<|V f4<|V f5<|V f6<|V f7<|V f8<|V w4<|V h9e.symm<|V u0<|V u1<|V u2<|V u3<|V u4<|V u5<|V u6<|V u7<|u8)
    exact bad h9 12 rt et
   | false =>
    repeat' (first | (with_reducible refine stopC [0, 1, 1, 1, 1, 1, 1, 1, 1, 1, 1] ?_) | ((with_reducible refine st1 ?_); (conv => whnf); (with_reducible refine ⟨?_⟩)) | ((with_reducible refine retW_intro rfl ?_); (conv => arg 2; whnf)) | ((with_reducible first | refine iB ?_ ?_ | refine gWt ?_ ?_ | refine gWf ?_ ?_) <;> intro hb <;> (try simp only [hb])) | (simp only [B, xB, F, reduceLT, reduceLeDiff, reduceEqDiff, reduceAdd, reduceMul, reduceSub, ↓reduceIte, eq_self]))
    refine ⟨?_⟩
    refine rWhenLoop h4 h7 b h0.nx h1.nx h3.nx L rev comp v _ tk (brV r tk) va D7 sva zva (fun c e => by have := hvab c e; omega) hb4 hv4 (checkR_kind hck tk) _ (by exact sT) (by exact sT) (by exact sT) (by exact sT) (by exact sT) _ ?_ ?_
    ·intro tm2 hA g4 rt hf
     clear t0 t4 t5 t6 t10
     have et : txnS rev comp L r = ⟨firstW rev comp (brV r tk), false, [], []⟩:= by unfold txnS; rw [if_pos hck, ← htk, ← ebt, if_neg (by simp), if_neg hf]
     obtain ⟨u0, u1, u2, u3, u4, u5, u6, u7, u8⟩ := rt.a4.u9
     refine rN ?_ (V g4<|V u0<|V u1<|V u2<|V u3<|V u4<|V u5<|V u6<|V u7<|u8)
     exact bad hA _ rt et
    ·intro tm2 hA g0 g4 g5 g6 g10 DA hf
     clear t0 t4 t5 t6 t10
     obtain ⟨l, hl⟩ : ∃ l, l = brV r tk := ⟨_, rfl⟩
     have et : txnS rev comp L r = ⟨0, tk, (opsS rev L l).1, (opsS rev L l).2⟩:= by unfold txnS; rw [if_pos hck, ← htk, ← ebt, if_neg (by simp), if_pos hf, hl]
     rw [et]
     obtain ⟨c0', c1', -⟩ := DA.s.c.u8
     obtain ⟨a0, a1, a2, a3, a4, -⟩ := DA.a.u9
     have w5 := DA.w5
     have vo := DA.s.gv.one
     have xA := DA.oo.1.1
     have wr1 : wrapF .u64 (Int.ofNat rev + Int.ofNat 1) = Int.ofNat (rev + 1) := u64_add (by omega)
     obtain ⟨hC, hCe⟩ : ∃ hC, hC = hA.sts h3.nx 3 [.bool tk] := ⟨_, rfl⟩
     have kC : ∀ c, c ≠ h3.nx → hC.t.get c = hA.t.get c := fun c hc => by rw [hCe, get_sts _ _ _ _ hc]
     have xC : hC.nx = hA.nx:= by rw [hCe, nx_sts]
     have AC : CellsAt hC h3.nx 0 (ansC 0 rev comp tk .nilslice) := by
      have := DA.a.put w5 (j := 3) (by simp [ansC]) (.bool tk)
      rw [Nat.zero_add, ← hCe] at this
      exact this
     have DC : DsH h4 hC b h0.nx h1.nx h3.nx L rev comp v (r.cs vc vt ve) 0 tk .nilslice :=
      ⟨⟨by omega, DA.s.c.of_get (kC b (by omega)), by rw [wrAt_of_get (kC b (by omega))]; exact DA.s.wr, DA.s.gv.of_get (by omega) (fun c e => kC c (by have := hv0 c e; omega)), .none, .inl ⟨.inl rfl, rfl, rfl⟩, DA.s.nv, DA.s.ns⟩, DA.q.of_get (kC h0.nx (by omega)), AC, by rw [hCe, wrAt_sts]; exact w5, by rw [hCe]; exact DA.oo.sts (.inl (by simp)), by omega, by omega, by omega, by omega, fun c e => by have := hv0 c e; omega, DA.a4.of_get (kC h1.nx (by omega)), by rw [wrAt_of_get (kC h1.nx (by omega))]; exact DA.w4, by omega, by omega⟩
     obtain ⟨e0, e1, -⟩ := DC.s.c.u8
     refine rN ?_ (V g0<|V g4<|V g5<|V g6<|V g10<|V a3<|V w5<|V hCe.symm<|V e0<|V e1<|V wr1<|vo)
     refine app_row (base := hC.nx) (n0 := 0) (cs0 := []) (by omega) u45a i45 Grows.none DC.s.gv (Nat.le_refl _) (by omega) (fun v1 hD g1 x1' old1 bl1 gg1 => ?_)
     rw [Nat.zero_add, List.nil_append] at g1
     have v1o := g1.one
     have oD : Og hC hD [] := ⟨⟨x1', fun c hc _ => old1 c hc (by simp [blkOf])⟩, gg1⟩
     have DD := DC.keep oD
     repeat' (first | (with_reducible refine stopC [0, 1, 1, 1, 1, 1, 1, 1, 1, 1, 1, 1, 1, 1, 1, 1] ?_) | ((with_reducible refine st1 ?_); (conv => whnf); (with_reducible refine ⟨?_⟩)) | ((with_reducible refine retW_intro rfl ?_); (conv => arg 2; whnf)) | ((with_reducible first | refine iB ?_ ?_ | refine gWt ?_ ?_ | refine gWf ?_ ?_) <;> intro hb <;> (try simp only [hb])) | (simp only [B, xB, F, reduceLT, reduceLeDiff, reduceEqDiff, reduceAdd, reduceMul, reduceSub, ↓reduceIte, eq_self, v1o]))
     refine ⟨?_⟩
     have hBl := hB tk
     rw [← hl] at hBl
     have hh0 : RrH h4 hD b h0.nx h1.nx h3.nx hC.nx L rev comp v (r.cs vc vt ve) tk [] v1 [] .nilslice :=
      ⟨DD, by rw [List.append_nil]; exact g1, .none, fun x hx => (by cases hx), fun c e => (by cases e), by omega, by omega, by omega, by omega, fun c e => by have := hv0 c e; omega, by omega, x1'⟩
     refine rOpsLoop h4 hD b h0.nx h1.nx h3.nx hC.nx L rev comp v _ tk l va v1 hh0 (by rw [hl]; exact sva) (fun c e => by have := hvab c e; omega) (by rw [hl]; exact zva) hs hzL (by omega) hBl (by rw [hl]; exact checkR_kind hck tk) (by rw [hl]; exact firstW_all hf) _ (by simp only [B, xB, F, reduceLT, reduceLeDiff, reduceEqDiff, reduceAdd, reduceMul, reduceSub, ↓reduceIte, eq_self, g0]) (by simp only [B, xB, F, reduceLT, reduceLeDiff, reduceEqDiff, reduceAdd, reduceMul, reduceSub, ↓reduceIte, eq_self, g4]) (by simp only [B, xB, F, reduceLT, reduceLeDiff, reduceEqDiff, reduceAdd, reduceMul, reduceSub, ↓reduceIte, eq_self, g5]) (by simp only [B, xB, F, reduceLT, reduceLeDiff, reduceEqDiff, reduceAdd, reduceMul, reduceSub, ↓reduceIte, eq_self, g10]) (by exact sT) (by exact sT) _ ?_
     intro tm3 hE wa xs rw_ f0 f4 f5 f12 f13 hxs hhE
     repeat' (first | (with_reducible refine stopC [1, 1, 1, 1, 1, 1, 1, 1, 1, 1, 1, 1, 1, 1, 1, 1] ?_) | ((with_reducible refine st1 ?_); (conv => whnf); (with_reducible refine ⟨?_⟩)) | ((with_reducible refine retW_intro rfl ?_); (conv => arg 2; whnf)) | ((with_reducible first | refine iB ?_ ?_ | refine gWt ?_ ?_ | refine gWf ?_ ?_) <;> intro hb <;> (try simp only [hb])) | (simp only [B, xB, F, reduceLT, reduceLeDiff, reduceEqDiff, reduceAdd, reduceMul, reduceSub, ↓reduceIte, eq_self]))
     refine ⟨?_⟩
     refine doEnd h0 h4 hE b h0.nx h1.nx h3.nx hC.nx L rev comp v _ tk _ wa xs rw_ hhE o04 lb (by omega) (by omega) hv0 tm3 f0 f4 f5 f12 f13 _ ?_
     intro u h' sv' dp
     rw [hxs] at dp
     exact ⟨xs, rw_, sv', dp⟩
  cases tk with
  | true =>
   repeat' (first | (with_reducible refine stopC [1, 1, 1, 1, 1, 1, 1, 1, 1] ?_) | ((with_reducible refine st1 ?_); (conv => whnf); (with_reducible refine ⟨?_⟩)) | ((with_reducible refine retW_intro rfl ?_); (conv => arg 2; whnf)) | ((with_reducible first | refine iB ?_ ?_ | refine gWt ?_ ?_ | refine gWf ?_ ?_) <;> intro hb <;> (try simp only [hb])) | (simp only [B, xB, F, reduceLT, reduceLeDiff, reduceEqDiff, reduceAdd, reduceMul, reduceSub, ↓reduceIte, eq_self, g0, g3, g4, g5, g6, p0, p1, p2, p3, p4, p5, p6, p7, oc, ot, oe]))
   refine ⟨?_⟩
   exact rest _ (by simp only [B, xB, F, reduceLT, reduceLeDiff, reduceEqDiff, reduceAdd, reduceMul, reduceSub, ↓reduceIte, eq_self, g0]) (by simp only [B, xB, F, reduceLT, reduceLeDiff, reduceEqDiff, reduceAdd, reduceMul, reduceSub, ↓reduceIte, eq_self, g4]) (by simp only [B, xB, F, reduceLT, reduceLeDiff, reduceEqDiff, reduceAdd, reduceMul, reduceSub, ↓reduceIte, eq_self, g5]) (by simp only [B, xB, F, reduceLT, reduceLeDiff, reduceEqDiff, reduceAdd, reduceMul, reduceSub, ↓reduceIte, eq_self, g6]) (by rw [hva]; exact sT)
  | false =>
   repeat' (first | (with_reducible refine stopC [1, 1, 1, 1, 1, 1, 1, 1, 1] ?_) | ((with_reducible refine st1 ?_); (conv => whnf); (with_reducible refine ⟨?_⟩)) | ((with_reducible refine retW_intro rfl ?_); (conv => arg 2; whnf)) | ((with_reducible first | refine iB ?_ ?_ | refine gWt ?_ ?_ | refine gWf ?_ ?_) <;> intro hb <;> (try simp only [hb])) | (simp only [B, xB, F, reduceLT, reduceLeDiff, reduceEqDiff, reduceAdd, reduceMul, reduceSub, ↓reduceIte, eq_self, g0, g3, g4, g5, g6, p0, p1, p2, p3, p4, p5, p6, p7, oc, ot, oe]))
   refine ⟨?_⟩
   exact rest _ (by simp only [B, xB, F, reduceLT, reduceLeDiff, reduceEqDiff, reduceAdd, reduceMul, reduceSub, ↓reduceIte, eq_self, g0]) (by simp only [B, xB, F, reduceLT, reduceLeDiff, reduceEqDiff, reduceAdd, reduceMul, reduceSub, ↓reduceIte, eq_self, g4]) (by simp only [B, xB, F, reduceLT, reduceLeDiff, reduceEqDiff, reduceAdd, reduceMul, reduceSub, ↓reduceIte, eq_self, g5]) (by simp only [B, xB, F, reduceLT, reduceLeDiff, reduceEqDiff, reduceAdd, reduceMul, reduceSub, ↓reduceIte, eq_self, g6]) (by rw [hva]; simp only [B, xB, F, reduceLT, reduceLeDiff, reduceEqDiff, reduceAdd, reduceMul, reduceSub, ↓reduceIte, eq_self, Bool.false_eq_true])
 ·have de : decide (e = 0) = false := decide_eq_false qe
  have e11 : checkR r = 11 := by
   rw [he] at qe
   unfold checkR at qe ⊢
   split at qe
   ·exact absurd rfl qe
   ·rename_i q; rw [if_neg q]
  have et : txnS rev comp L r = ⟨11, false, [], []⟩:= by unfold txnS; rw [if_neg (by rw [← he]; exact qe), e11]
  have D8 := D5.put 11
  obtain ⟨h8, h8e⟩ : ∃ h8, h8 = h5.sts h3.nx 0 [.int .i64 (.ofNat 11)] := ⟨_, rfl⟩
  rw [← h8e] at D8
  obtain ⟨a0, -⟩ := D5.a.u9
  have w5 := D5.w5
  obtain ⟨b0, b1, b2, b3', b4', b5', b6, b7, b8⟩ := D8.a.u9
  obtain ⟨f0, f1, f2, f3, f4, f5, f6, f7, f8⟩ := D8.a4.u9
  have w4 := D8.w4
  obtain ⟨h9, h9e⟩ : ∃ h9, h9 = h8.sts h1.nx 0 (ansC 11 rev comp false .nilslice) := ⟨_, rfl⟩
  have rt := D8.ret h9e hb4 hv4
  obtain ⟨u0, u1, u2, u3, u4, u5, u6, u7, u8⟩ := rt.a4.u9
  unfold ansC at h9e
  refine rN ?_ (V de<|V @Bool.not_false<|V a0<|V w5<|V h8e.symm<|V b0<|V b1<|V b2<|V b3'<|V b4'<|V b5'<|V b6<|V b7<|V b8<|V f0<|V f1<|V f2<|V f3<|V f4<|V f5<|V f6<|V f7<|V f8<|V w4<|V h9e.symm<|V u0<|V u1<|V u2<|V u3<|V u4<|V u5<|V u6<|V u7<|u8)
  exact bad h9 11 rt et
end
end Go.Proofs.Ytnedigoajoflaaa.M

namespace Go.Proofs.Ytnedigoajoflaaa.M
open Go Go.AX
noncomputable section
set_option maxRecDepth 100000
structure ArPost (h0 h' : H) (b : Nat) (L : List Rec) (a : Ap) (u : AV) (xs : List RV) (rw_ v' v : AV) : Prop where
 u : u = .agg (ansC a.err a.rev a.comp a.tk rw_)
 hx : xs.map (·.1) = a.rs
 ok : RowOk h' rw_ xs
 s : SrAt h' b (L ++ a.R) a.rev a.comp v' [] .nilslice 0
 oo : Og h0 h' [b]
 vb : ∀ c, blkOf v' = some c → blkOf v = some c ∨ h0.nx ≤ c
theorem ansBox (h : H) (err rev comp : Nat) (tk : Bool) (rw_ : AV) : ∃ h1, (h.newCells 38 [.int .i64 (.ofNat 0), .int .u64 (.ofNat 0), .int .u64 (.ofNat 0), .bool false, .nilslice, .int .u32 (.ofNat 0), .int .u64 (.ofNat 0), .int .u64 (.ofNat 0), .int .i64 (.ofNat 0)]).sts h.nx 0 [.int .i64 (.ofNat err), .int .u64 (.ofNat rev), .int .u64 (.ofNat comp), .bool tk, rw_, .int .u32 (.ofNat 0), .int .u64 (.ofNat 0), .int .u64 (.ofNat 0), .int .i64 (.ofNat 0)] = h1 ∧ Og h h1 [] ∧ h1.nx = h.nx + 1 ∧ CellsAt h1 h.nx 0 (ansC err rev comp tk rw_) :=
 ⟨_, rfl, ((Og.refl _ _).new _ _).sts (.inr (Nat.le_refl _)), by rw [nx_sts, nx_new], CellsAt.box _ _ _ _⟩
theorem ansPut {h : H} {b4 : Nat} (w4 : wrAt h b4 = true) (err rev comp : Nat) (tk : Bool) (rw_ : AV) : ∃ h1, h.sts b4 0 [.int .i64 (.ofNat err), .int .u64 (.ofNat rev), .int .u64 (.ofNat comp), .bool tk, rw_, .int .u32 (.ofNat 0), .int .u64 (.ofNat 0), .int .u64 (.ofNat 0), .int .i64 (.ofNat 0)] = h1 ∧ Og h h1 [b4] ∧ h1.nx = h.nx ∧ CellsAt h1 b4 0 (ansC err rev comp tk rw_) ∧ (∀ c, c ≠ b4 → h1.t.get c = h.t.get c) :=
 ⟨_, rfl, (Og.refl _ _).sts (.inl (by simp)), by rw [nx_sts], CellsAt.sts w4 _, fun c hc => get_sts _ _ _ _ hc⟩
theorem SrAt.far {h h' : H} {b rev comp at1 : Nat} {L S : List Rec} {v sv : AV} (s : SrAt h b L rev comp v S sv at1) (hx : h.nx ≤ h'.nx) {d : Nat} (k : ∀ c, c < h.nx → c ≠ d → h'.t.get c = h.t.get c) (n1 : b ≠ d) (n2 : ∀ c, blkOf v = some c → c ≠ d) (n3 : ∀ c, blkOf sv = some c → c ≠ d) : SrAt h' b L rev comp v S sv at1 :=
 ⟨Nat.lt_of_lt_of_le s.lt hx, s.c.of_get (k b s.lt n1), by rw [wrAt_of_get (k b s.lt n1)]; exact s.wr, s.gv.of_get hx (fun c e => k c (s.gv.base e).2 (n2 c e)), s.ss.move hx (fun c e => k c (sl_lt s.ss c e) (n3 c e)), s.sk.move hx (fun c e => k c (sl_lt s.ss c e) (n3 c e)), s.nv, s.ns⟩
set_option maxHeartbeats 8000000 in
theorem rApplyC (h0 : H) (bm b : Nat) (L : List Rec) (rev comp : Nat) (v : AV) (s : SrAt h0 b L rev comp v [] .nilslice 0) (km : cellAt h0 bm 0 = some (.ptr b 0)) (lm : bm < h0.nx) (nm : bm ≠ b) (r : Rq) (vc vt ve : AV) (ra : RqAt h0 r vc vt ve) (hnb : blkOf vc ≠ some b ∧ blkOf vt ≠ some b ∧ blkOf ve ≠ some b)
  (hm : ∀ x, x ∈ L → x.main ≤ rev) (hr : rev ≤ 1000000) (hs : Short L) (hzL : L.length ≤ 200000) (htw : ∀ tk, TwEq (brV r tk))
  (hB : ∀ tk i, i ≤ (brV r tk).length → Short (opsS rev L ((brV r tk).take i)).2 ∧ (opsS rev L ((brV r tk).take i)).2.length ≤ 200000) :
  PushC P (.enter 10 [.ptr bm 0, .agg (r.cs vc vt ve)] h0) fun u h' => ∃ xs rw_ v', ArPost h0 h' b L (applyS rev comp L r) u xs rw_ v' v := by
 have oc := sl_one ra.sc
 have ot := sl_one ra.st
 have oe := sl_one ra.se
 have lb := s.lt
 have hv0 : ∀ c, blkOf v = some c → c < h0.nx := fun c e => (s.gv.base e).2
 have bx := rqAll h0 r vc vt ve oc ot oe
 obtain ⟨h1, h1e⟩ : ∃ h1, h1 = h0.newCells 31 (r.cs vc vt ve) := ⟨_, rfl⟩
 rw [← h1e] at bx
 have o1 : Og h0 h1 []:= by rw [h1e]; exact (Og.refl _ _).new _ _
 have x1 : h1.nx = h0.nx + 1:= by rw [h1e]; rfl
 have Y1 : CellsAt h1 h0.nx 0 (r.cs vc vt ve):= by rw [h1e]; exact CellsAt.new _ _ _
 obtain ⟨h2, h2e, o2, x2, w42, A2⟩ := ansNew h1
 have o12 := o1.t o2
 have s2 := s.keep o12
 have Y2 := gC Y1 o2 (by omega) (by simp)
 obtain ⟨y0, y1, y2, y3, y4, y5, y6, y7⟩ := Y2.u8
 have km2 := kc km o12 lm (by simp)
 have ra2 := ra.keep o12
 by_cases q0 : r.kind = 0
 ·have d0 : (r.kind == Int.ofNat 0) = true:= by rw [q0]; rfl
  have ea : applyS rev comp L r = ⟨(txnS rev comp L r).err, if (txnS rev comp L r).R = [] then rev else rev + 1, comp, (txnS rev comp L r).tk, (txnS rev comp L r).rs, (txnS rev comp L r).R⟩:= by unfold applyS; rw [if_pos q0]
  rw [ea]
  have hTR : (txnS rev comp L r).R.length ≤ 200000 := by
   unfold txnS
   split
   ·split
    ·exact Nat.zero_le _
    ·split
     ·have := (hB (tkB rev L r) _ (Nat.le_refl _)).2
      rw [List.take_length] at this
      exact this
     ·exact Nat.zero_le _
   ·exact Nat.zero_le _
  obtain ⟨T, hT⟩ : ∃ T, T = txnS rev comp L r := ⟨_, rfl⟩
  rw [← hT] at hTR
  refine pushC_of_codeW (fn := Try.f10) (c := bodyC Try.f10) Try.func10 rfl ?_
  show codeW P 10 51 none _ _ _ _ _
  refine codeW_root ?_
  refine rN ?_ (V bx<|V h2e<|V km2<|V y0<|V y1<|V y2<|V y3<|V y4<|V y5<|V y6<|V y7<|d0)
  refine ((doC h2 b L rev comp v [] .nilslice 0 s2 r vc vt ve ra2 hnb hm hr hs hzL htw hB).call P).mono P ?_
  rintro _ h3 ⟨xs, rw_, sv', dp⟩
  rw [← hT] at dp ⊢
  obtain ⟨hu, hx, ok, s3, oo3, rb, xb⟩ := dp
  unfold ansC at hu
  subst hu
  have x3 := oo3.1.1
  have ro := sl_one ok.gr
  obtain ⟨r2, hr2⟩ : ∃ r2, r2 = (if T.R = [] then rev else rev + 1) := ⟨_, rfl⟩
  rw [← hr2]
  obtain ⟨h4, h4e, o4, x4, A4⟩ := ansBox h3 T.err r2 comp T.tk rw_
  have s4 := s3.keep o4
  refine rN ?_ (V h4e<|ro)
  refine ((commitC h4 b L rev comp v T.R sv' 0 s4 hr (by omega)).call P).mono P ?_
  rintro _ h5 ⟨rfl, o5, v', s5, vb5⟩
  rw [← hr2, if_neg (by omega)] at s5
  have x5 := o5.1.1
  have l4b : b < h3.nx := s3.lt
  have A5 := gC A4 o5 (by omega) (by simp; omega)
  obtain ⟨a0, a1, a2, a3, a4, a5, a6, a7, a8⟩ := A5.u9
  have w45 := kw (kw (kw w42 oo3 (by omega) (by simp; omega)) o4 (by omega) (by simp)) o5 (by omega) (by simp; omega)
  obtain ⟨f0, f1, f2, f3, f4, f5, f6, f7, f8⟩ := (gC (gC (gC A2 oo3 (by omega) (by simp; omega)) o4 (by omega) (by simp)) o5 (by omega) (by simp; omega)).u9
  obtain ⟨h6, h6e, o6, x6, A6, k6⟩ := ansPut w45 T.err r2 comp T.tk rw_
  obtain ⟨e0, e1, e2, e3, e4, e5, e6, e7, e8⟩ := A6.u9
  refine rN ?_ (V a0<|V a1<|V a2<|V a3<|V a4<|V a5<|V a6<|V a7<|V a8<|V f0<|V f1<|V f2<|V f3<|V f4<|V f5<|V f6<|V f7<|V f8<|V w45<|V ro<|V h6e<|V e0<|V e1<|V e2<|V e3<|V e4<|V e5<|V e6<|V e7<|e8)
  have rb2 : ∀ c, blkOf rw_ = some c → h2.nx ≤ c := rb
  have kk : ∀ c, c < h3.nx → c ≠ b → c ≠ h1.nx → h6.t.get c = h3.t.get c := fun c hc n1 n2 => by rw [k6 c n2, o5.1.2 c (by omega) (by simp [n1]), o4.1.2 c hc (by simp)]
  have rok : RowOk h6 rw_ xs := ok.move (lo := h2.nx) (by omega) (fun c hc hc2 => kk c hc2 (by omega) (by omega)) rb xb
  have s5b : ∀ c, blkOf v' = some c → c ≠ h1.nx := fun c e => by have := vb5 c e; omega
  exact ⟨xs, rw_, v', rfl, hx, rok, s5.far (by omega) (fun c hc hn => k6 c hn) (by omega) s5b (fun c e => by cases e), ⟨⟨by omega, fun c hc hn => by rw [kk c (by omega) (by simpa using hn) (by omega), oo3.1.2 c (by omega) hn, o12.1.2 c hc (by simp)]⟩, by rw [o6.2, o5.2, o4.2, oo3.2, o12.2]⟩, fun c e => .inr (by have := vb5 c e; omega)⟩
 ·have d0 : (r.kind == Int.ofNat 0) = false:= by simpa using q0
  obtain ⟨c0, c1, c2, -⟩ := s2.c.u8
  by_cases q1 : r.kind = 1
  ·have d1 : (r.kind == Int.ofNat 1) = true:= by rw [q1]; rfl
   have ea : applyS rev comp L r = ⟨(compS rev comp r.rev).1, rev, (compS rev comp r.rev).2, false, [], []⟩:= by unfold applyS; rw [if_neg q0, if_pos q1]
   rw [ea]
   refine pushC_of_codeW (fn := Try.f10) (c := bodyC Try.f10) Try.func10 rfl ?_
   show codeW P 10 51 none _ _ _ _ _
   refine codeW_root ?_
   refine rN ?_ (V bx<|V h2e<|V km2<|V y0<|V y1<|V y2<|V y3<|V y4<|V y5<|V y6<|V y7<|V d0<|d1)
   refine ((rCompC h2 b L rev comp v [] .nilslice 0 s2 r.rev).call P).mono P ?_
   rintro _ h3 ⟨rfl, o3, s3⟩
   have x3 := o3.1.1
   have w43 := kw w42 o3 (by omega) (by simp; omega)
   have A3 := gC A2 o3 (by omega) (by simp; omega)
   by_cases qe : (compS rev comp r.rev).1 = 0
   ·have de : decide ((compS rev comp r.rev).1 = 0) = true := decide_eq_true qe
    have ec : compS rev comp r.rev = (0, r.rev) ∧ comp < r.rev := by
     unfold compS at qe ⊢
     split at qe
     ·cases qe
     ·rename_i g1
      split at qe
      ·cases qe
      ·rename_i g2
       rw [if_neg g1, if_neg g2]; exact ⟨rfl, by omega⟩
    rw [if_pos qe] at s3
    refine rN ?_ (de)
    refine ((commitC h3 b L rev comp v [] .nilslice r.rev s3 hr (by simp; omega)).call P).mono P ?_
    rintro _ h4 ⟨rfl, o4, v', s4, vb4⟩
    rw [if_pos rfl, if_pos (by omega), List.append_nil] at s4
    have x4 := o4.1.1
    have w44 := kw w43 o4 (by omega) (by simp; omega)
    obtain ⟨f0, f1, f2, f3, f4, f5, f6, f7, f8⟩ := (gC A3 o4 (by omega) (by simp; omega)).u9
    obtain ⟨i0, i1, i2, -⟩ := s4.c.u8
    rw [ec.1]
    obtain ⟨h6, h6e, o6, x6, A6, k6⟩ := ansPut w44 0 rev r.rev false .nilslice
    obtain ⟨e0, e1, e2, e3, e4, e5, e6, e7, e8⟩ := A6.u9
    refine rT ?_ (V i1<|V i2<|V f0<|V f1<|V f2<|V f3<|V f4<|V f5<|V f6<|V f7<|V f8<|V w44<|V h6e<|V e0<|V e1<|V e2<|V e3<|V e4<|V e5<|V e6<|V e7<|e8)
    refine ⟨[], .nilslice, v', rfl, rfl, RowOk.nil _, ?_, ⟨⟨by omega, fun c hc hn => by rw [k6 c (by omega), o4.1.2 c (by omega) hn, o3.1.2 c (by omega) hn, o12.1.2 c hc (by simp)]⟩, by rw [o6.2, o4.2, o3.2, o12.2]⟩, fun c e => .inr (by have := vb4 c e; omega)⟩
    rw [List.append_nil]
    exact s4.far (by omega) (fun c hc hn => k6 c hn) (by omega) (fun c e => by have := vb4 c e; omega) (fun c e => by cases e)
   ·have de : decide ((compS rev comp r.rev).1 = 0) = false := decide_eq_false qe
    have ec : (compS rev comp r.rev).2 = comp := by
     unfold compS at qe ⊢
     split at qe
     ·rename_i g1; rw [if_pos g1]
     ·rename_i g1
      split at qe
      ·rename_i g2; rw [if_neg g1, if_pos g2]
      ·exact absurd rfl qe
    rw [if_neg qe] at s3
    rw [ec]
    obtain ⟨f0, f1, f2, f3, f4, f5, f6, f7, f8⟩ := A3.u9
    obtain ⟨i0, i1, i2, -⟩ := s3.c.u8
    obtain ⟨e, he⟩ : ∃ e, e = (compS rev comp r.rev).1 := ⟨_, rfl⟩
    rw [← he] at de ⊢
    obtain ⟨h6, h6e, o6, x6, A6, k6⟩ := ansPut w43 e rev comp false .nilslice
    obtain ⟨e0, e1, e2, e3, e4, e5, e6, e7, e8⟩ := A6.u9
    refine rT ?_ (V de<|V i1<|V i2<|V f0<|V f1<|V f2<|V f3<|V f4<|V f5<|V f6<|V f7<|V f8<|V w43<|V h6e<|V e0<|V e1<|V e2<|V e3<|V e4<|V e5<|V e6<|V e7<|e8)
    refine ⟨[], .nilslice, v, rfl, rfl, RowOk.nil _, ?_, ⟨⟨by omega, fun c hc hn => by rw [k6 c (by omega), o3.1.2 c (by omega) hn, o12.1.2 c hc (by simp)]⟩, by rw [o6.2, o3.2, o12.2]⟩, fun c e => .inl e⟩
    rw [List.append_nil]
    exact s3.far (by omega) (fun c hc hn => k6 c hn) (by omega) (fun c e => by have := hv0 c e; omega) (fun c e => by cases e)
  ·have d1 : (r.kind == Int.ofNat 1) = false:= by simpa using q1
   have ea : applyS rev comp L r = ⟨11, rev, comp, false, [], []⟩:= by unfold applyS; rw [if_neg q0, if_neg q1]
   rw [ea]
   obtain ⟨f0, f1, f2, f3, f4, f5, f6, f7, f8⟩ := A2.u9
   obtain ⟨h6, h6e, o6, x6, A6, k6⟩ := ansPut w42 11 rev comp false .nilslice
   obtain ⟨e0, e1, e2, e3, e4, e5, e6, e7, e8⟩ := A6.u9
   refine pushC_of_codeW (fn := Try.f10) (c := bodyC Try.f10) Try.func10 rfl ?_
   show codeW P 10 51 none _ _ _ _ _
   refine codeW_root ?_
   refine rT ?_ (V bx<|V h2e<|V km2<|V y0<|V y1<|V y2<|V y3<|V y4<|V y5<|V y6<|V y7<|V d0<|V d1<|V c1<|V c2<|V f0<|V f1<|V f2<|V f3<|V f4<|V f5<|V f6<|V f7<|V f8<|V w42<|V h6e<|V e0<|V e1<|V e2<|V e3<|V e4<|V e5<|V e6<|V e7<|e8)
   refine ⟨[], .nilslice, v, rfl, rfl, RowOk.nil _, ?_, ⟨⟨by omega, fun c hc hn => by rw [k6 c (by omega), o12.1.2 c hc (by simp)]⟩, by rw [o6.2, o12.2]⟩, fun c e => .inl e⟩
   rw [List.append_nil]
   exact s2.far (by omega) (fun c hc hn => k6 c hn) (by omega) (fun c e => by have := hv0 c e; omega) (fun c e => by cases e)
theorem rNewC (h0 : H) : PushC P (.enter 6 [] h0) (fun u h' => ∃ bm b, u = .ptr bm 0 ∧ h0.nx ≤ bm ∧ h0.nx ≤ b ∧ bm < h'.nx ∧ bm ≠ b ∧ cellAt h' bm 0 = some (.ptr b 0) ∧ SrAt h' b [] 1 0 .nilslice [] .nilslice 0 ∧ Og h0 h' []) := by
 obtain ⟨h1, h1e⟩ : ∃ h1, h1 = h0.newCells 77 [.nilslice, .int .u64 (.ofNat 1), .int .u64 (.ofNat 0), .int .u64 (.ofNat 0), .int .u64 (.ofNat 0), .nilslice, .nilslice, .int .u64 (.ofNat 0)] := ⟨_, rfl⟩
 have o1 : Og h0 h1 []:= by rw [h1e]; exact (Og.refl _ _).new _ _
 have x1 : h1.nx = h0.nx + 1:= by rw [h1e]; rfl
 have C1 : CellsAt h1 h0.nx 0 [.nilslice, .int .u64 (.ofNat 1), .int .u64 (.ofNat 0), .int .u64 (.ofNat 0), .int .u64 (.ofNat 0), .nilslice, .nilslice, .int .u64 (.ofNat 0)]:= by rw [h1e]; exact CellsAt.new _ _ _
 have w1 : wrAt h1 h0.nx = true:= by rw [h1e]; exact wr_new _ _ _
 have hS : PushC P (.enter 17 [] h0) (fun u h' => u = .ptr h0.nx 0 ∧ h' = h1) := by
  refine pushC_of_codeW (fn := Try.f17) (c := bodyC Try.f17) Try.func17 rfl ?_
  show codeW P 17 3 none _ _ _ _ _
  refine codeW_root ?_
  repeat' (first | ((with_reducible refine st1 ?_); (conv => whnf); (with_reducible refine ⟨?_⟩)) | ((with_reducible refine retW_intro rfl ?_); (conv => arg 2; whnf)) | ((with_reducible first | refine iB ?_ ?_ | refine gWt ?_ ?_ | refine gWf ?_ ?_) <;> intro hb <;> (try simp only [hb])) | (simp only [B, F, reduceLT, reduceLeDiff, reduceEqDiff, reduceAdd, reduceMul, reduceSub, ↓reduceIte, eq_self, ← h1e]))
 refine pushC_of_codeW (fn := Try.f6) (c := bodyC Try.f6) Try.func6 rfl ?_
 show codeW P 6 4 none _ _ _ _ _
 refine codeW_root ?_
 refine rN0 ?_
 refine (hS.call P).mono P ?_
 rintro _ h1' ⟨rfl, e1⟩
 rw [e1]
 refine rN0 ?_
 have o2 : Og h1 (h1.newCells 66 [.ptr h0.nx 0]) [] := (Og.refl _ _).new _ _
 refine ⟨h1.nx, h0.nx, rfl, by omega, Nat.le_refl _, by omega, by omega, by rw [if_pos rfl], SrAt.keep ⟨by omega, C1, w1, .none, .none, .inl ⟨.inl rfl, rfl, rfl⟩, fun c e => (by cases e), fun c e => (by cases e)⟩ o2, o1.t o2⟩
end
end Go.Proofs.Ytnedigoajoflaaa.M

namespace Go.Proofs.Ytnedigoajoflaaa.M
open Go Go.AX
noncomputable section
set_option maxRecDepth 100000
set_option maxHeartbeats 4000000 in
theorem sameResC (h0 : H) (r : Res) (k1 p1 k2 p2 : AV) (s1 : SliceAt h0 k1 r.kvs.length (r.kvs.flatMap KV.cs)) (s2 : SliceAt h0 k2 r.kvs.length (r.kvs.flatMap KV.cs)) (s3 : SliceAt h0 p1 r.prev.length (r.prev.flatMap KV.cs)) (s4 : SliceAt h0 p2 r.prev.length (r.prev.flatMap KV.cs)) (hz : r.kvs.length ≤ 1000000 ∧ r.prev.length ≤ 1000000) :
  PushC P (.enter 19 [.agg (r.cs k1 p1), .agg (r.cs k2 p2)] h0) (SaysG h0 (.bool true)) := by
 have ok1 := sl_one s1
 have ok2 := sl_one s2
 have op1 := sl_one s3
 have op2 := sl_one s4
 have bx1 : boxR h0 72 (r.cs k1 p1) = .val (.ptr h0.nx 0) (h0.newCells 72 (r.cs k1 p1)) := boxR_ok (by unfold Res.cs; simp only [allOne_cons, allOne_nil, ok1, op1, one_int, one_bool, Bool.and_self, Bool.true_and])
 obtain ⟨h1, h1e⟩ : ∃ h1, h1 = h0.newCells 72 (r.cs k1 p1) := ⟨_, rfl⟩
 rw [← h1e] at bx1
 have o1 : Og h0 h1 []:= by rw [h1e]; exact (Og.refl _ _).new _ _
 have x1 : h1.nx = h0.nx + 1:= by rw [h1e]; rfl
 have C1 : CellsAt h1 h0.nx 0 (r.cs k1 p1):= by rw [h1e]; exact CellsAt.new _ _ _
 have bx2 : boxR h1 72 (r.cs k2 p2) = .val (.ptr h1.nx 0) (h1.newCells 72 (r.cs k2 p2)) := boxR_ok (by unfold Res.cs; simp only [allOne_cons, allOne_nil, ok2, op2, one_int, one_bool, Bool.and_self, Bool.true_and])
 obtain ⟨h2, h2e⟩ : ∃ h2, h2 = h1.newCells 72 (r.cs k2 p2) := ⟨_, rfl⟩
 rw [← h2e] at bx2
 have o2 : Og h1 h2 []:= by rw [h2e]; exact (Og.refl _ _).new _ _
 have x2 : h2.nx = h1.nx + 1:= by rw [h2e]; rfl
 have C2 : CellsAt h2 h1.nx 0 (r.cs k2 p2):= by rw [h2e]; exact CellsAt.new _ _ _
 have C12 := gC C1 o2 (by omega) (by simp)
 unfold Res.cs at C12 C2
 obtain ⟨a0, a1, a2, a3, a4⟩ := C12.u5
 obtain ⟨b0, b1, b2, b3, b4⟩ := C2.u5
 have o12 := o1.t o2
 have eb : ∀ b : Bool, (b == b) = true := fun b => by cases b <;> rfl
 have e1 := eb r.more
 refine pushC_of_codeW (fn := Try.f19) (c := bodyC Try.f19) Try.func19 rfl ?_
 show codeW P 19 38 none _ _ _ _ _
 refine codeW_root ?_
 repeat' (first | ((with_reducible refine st1 ?_); (conv => whnf); (with_reducible refine ⟨?_⟩)) | ((with_reducible refine retW_intro rfl ?_); (conv => arg 2; whnf)) | ((with_reducible first | refine iB ?_ ?_ | refine gWt ?_ ?_ | refine gWf ?_ ?_) <;> intro hb <;> (try simp only [hb])) | (simp only [B, F, reduceLT, reduceLeDiff, reduceEqDiff, reduceAdd, reduceMul, reduceSub, ↓reduceIte, eq_self, bx1, bx2, a0, a1, a2, a3, a4, b0, b1, b2, b3, b4, e1, beq_self_eq_true, decide_true]))
 refine ((sameKVs h2 k1 k2 r.kvs (SliceAt.only o12.1 s1 (fun _ _ => by simp)) (SliceAt.only o12.1 s2 (fun _ _ => by simp)) hz.1).call P).mono P ?_
 rintro _ h3 ⟨rfl, o3⟩
 obtain ⟨a0', a1', a2', a3', a4'⟩ := (gC C12 o3 (by omega) (by simp)).u5
 obtain ⟨b0', b1', b2', b3', b4'⟩ := (gC C2 o3 (by omega) (by simp)).u5
 have o13 := o12.t o3
 refine rN ?_ (V a0'<|V a1'<|V a2'<|V a3'<|V a4'<|V b0'<|V b1'<|V b2'<|V b3'<|b4')
 refine ((sameKVs h3 p1 p2 r.prev (SliceAt.only o13.1 s3 (fun _ _ => by simp)) (SliceAt.only o13.1 s4 (fun _ _ => by simp)) hz.2).call P).mono P ?_
 rintro _ h4 ⟨rfl, o4⟩
 refine rN0 ?_
 exact ⟨rfl, o13.t o4⟩
theorem RV.at {h : H} {b o n : Nat} {cap : Cap} {l : List RV} (sl : SliceAt h (.slice b o n cap) n (l.flatMap RVcs)) {i : Nat} {x : RV} (hx : l[i]? = some x) : cellAt h b (o + i * 5) = some x.2.1 ∧ cellAt h b (o + (i * 5 + 1)) = some (.bool x.1.more) ∧ cellAt h b (o + (i * 5 + 2)) = some (.int .i64 (.ofNat x.1.cnt)) ∧ cellAt h b (o + (i * 5 + 3)) = some (.int .i64 (.ofNat x.1.del)) ∧ cellAt h b (o + (i * 5 + 4)) = some x.2.2 := by
 have g : ∀ k, k < 5 → cellAt h b (o + (i * 5 + k)) = (RVcs x)[k]? := fun k hk => cells_at RVlen sl hx hk
 exact ⟨g 0 (by omega), g 1 (by omega), g 2 (by omega), g 3 (by omega), g 4 (by omega)⟩
theorem ans1 (h : H) (err rev comp : Nat) (tk : Bool) (rw_ : AV) (o : rw_.one = true) : boxR h 38 [.int .i64 (.ofNat err), .int .u64 (.ofNat rev), .int .u64 (.ofNat comp), .bool tk, rw_, .int .u32 (.ofNat 0), .int .u64 (.ofNat 0), .int .u64 (.ofNat 0), .int .i64 (.ofNat 0)] = .val (.ptr h.nx 0) (h.newCells 38 (ansC err rev comp tk rw_)) := boxR_ok (by simp only [allOne_cons, allOne_nil, o, one_int, one_bool, Bool.and_self, Bool.true_and])
structure SaI (h0 h2 : H) (b2 b3 n : Nat) (m : Nat) (ds : List Nat) (tm : T AV) (h : H) (i : Nat) : Prop where
 ds : ds = []
 nn : m = n - i
 ii : i ≤ n
 t2 : tm.get 2 = some (.ptr b2 0)
 t3 : tm.get 3 = some (.ptr b3 0)
 t5 : tm.get 5 = some (.int .i64 (.ofNat i))
 oo : Og h2 h []
set_option maxHeartbeats 4000000 in
theorem sameC (h0 : H) (err rev comp : Nat) (tk : Bool) (rs : List Res) (xs ys : List RV) (rx ry : AV) (ex : xs.map (·.1) = rs) (ey : ys.map (·.1) = rs) (kx : RowOk h0 rx xs) (ky : RowOk h0 ry ys) (hz : rs.length ≤ 1000000) (hr : ∀ r, r ∈ rs → r.kvs.length ≤ 1000000 ∧ r.prev.length ≤ 1000000) :
  PushC P (.enter 8 [.agg (ansC err rev comp tk rx), .agg (ansC err rev comp tk ry)] h0) (SaysG h0 (.bool true)) := by
 have ox := sl_one kx.gr
 have oy := sl_one ky.gr
 have lx : xs.length = rs.length:= by have := congrArg List.length ex; rwa [List.length_map] at this
 have ly : ys.length = rs.length:= by have := congrArg List.length ey; rwa [List.length_map] at this
 have hlx := kx.gr.len (P := P) u35a
 have hly := ky.gr.len (P := P) u35a
 rw [lx] at hlx
 rw [ly] at hly
 have bx1 := ans1 h0 err rev comp tk rx ox
 obtain ⟨h1, h1e⟩ : ∃ h1, h1 = h0.newCells 38 (ansC err rev comp tk rx) := ⟨_, rfl⟩
 rw [← h1e] at bx1
 have o1 : Og h0 h1 []:= by rw [h1e]; exact (Og.refl _ _).new _ _
 have x1 : h1.nx = h0.nx + 1:= by rw [h1e]; rfl
 have C1 : CellsAt h1 h0.nx 0 (ansC err rev comp tk rx):= by rw [h1e]; exact CellsAt.new _ _ _
 have bx2 := ans1 h1 err rev comp tk ry oy
 obtain ⟨h2, h2e⟩ : ∃ h2, h2 = h1.newCells 38 (ansC err rev comp tk ry) := ⟨_, rfl⟩
 rw [← h2e] at bx2
 have o2 : Og h1 h2 []:= by rw [h2e]; exact (Og.refl _ _).new _ _
 have x2 : h2.nx = h1.nx + 1:= by rw [h2e]; rfl
 have C2 : CellsAt h2 h1.nx 0 (ansC err rev comp tk ry):= by rw [h2e]; exact CellsAt.new _ _ _
 have C12 := gC C1 o2 (by omega) (by simp)
 obtain ⟨a0, a1, a2, a3, a4, a5, a6, a7, a8⟩ := C12.u9
 obtain ⟨b0, b1, b2, b3, b4, b5, b6, b7, b8⟩ := C2.u9
 have o12 := o1.t o2
 have eb : ∀ b : Bool, (b == b) = true := fun b => by cases b <;> rfl
 have e1 : (tk != tk) = false:= by cases tk <;> rfl
 unfold ansC
 refine pushC_of_codeW (fn := Try.f8) (c := bodyC Try.f8) Try.func8 rfl ?_
 show codeW P 8 88 none _ _ _ _ _
 refine codeW_root ?_
 repeat' (first | ((with_reducible refine st1 ?_); (conv => whnf); (with_reducible refine ⟨?_⟩)) | ((with_reducible refine retW_intro rfl ?_); (conv => arg 2; whnf)) | ((with_reducible first | refine iB ?_ ?_ | refine gWt ?_ ?_ | refine gWf ?_ ?_) <;> intro hb <;> (try simp only [hb])) | (simp only [B, xB, F, reduceLT, reduceLeDiff, reduceEqDiff, reduceAdd, reduceMul, reduceSub, ↓reduceIte, eq_self, bx1, bx2, a0, a1, a2, a3, a4, a5, a6, a7, a8, b0, b1, b2, b3, b4, b5, b6, b7, b8, e1, hlx, hly, beq_self_eq_true, decide_true, Bool.not_true]))
 refine st_loop (fun m ds tm h => ∃ i, SaI h0 h2 h0.nx h1.nx rs.length m ds tm h i) rs.length rfl ⟨0, rfl, rfl, Nat.zero_le _, by exact sT, by exact sT, by exact sT, Og.refl _ _⟩ (fun m ds tm h hI => ?_)
 obtain ⟨i, rfl, rfl, ii, t2, t3, t5, oo⟩ := hI
 obtain ⟨c0, c1, c2, c3, c4, c5, c6, c7, c8⟩ := (gC C12 oo (by omega) (by simp)).u9
 obtain ⟨d0, d1, d2, d3, d4, d5, d6, d7, d8⟩ := (gC C2 oo (by omega) (by simp)).u9
 by_cases hi : i < rs.length
 ·have di : decide (i < rs.length) = true := decide_eq_true hi
  have lt1 : (i < xs.length) = True:= by simp; omega
  have lt2 : (i < ys.length) = True:= by simp; omega
  obtain ⟨r, hrr⟩ : ∃ r, rs[i]? = some r := ⟨_, List.getElem?_eq_getElem hi⟩
  obtain ⟨x, hx⟩ : ∃ x, xs[i]? = some x := ⟨_, List.getElem?_eq_getElem (by omega)⟩
  obtain ⟨y, hy⟩ : ∃ y, ys[i]? = some y := ⟨_, List.getElem?_eq_getElem (by omega)⟩
  have xr : x.1 = r:= by rw [← ex, List.getElem?_map, hx] at hrr; exact Option.some.inj hrr
  have yr : y.1 = r:= by rw [← ey, List.getElem?_map, hy] at hrr; exact Option.some.inj hrr
  have o02 := o12.t oo
  have kxh := SliceAt.only o02.1 kx.gr (fun _ _ => by simp)
  have kyh := SliceAt.only o02.1 ky.gr (fun _ _ => by simp)
  obtain ⟨x1', x2'⟩ := kx.ok x (List.mem_of_getElem? hx)
  obtain ⟨y1', y2'⟩ := ky.ok y (List.mem_of_getElem? hy)
  have kxh' := kxh
  have kyh' := kyh
  obtain ⟨bv, ov, cv, rfl, hbv, -⟩ := kxh.place (by omega)
  obtain ⟨bw, ow, cw, rfl, hbw, -⟩ := kyh.place (by omega)
  obtain ⟨q0, q1, q2, q3, q4⟩ := RV.at kxh' hx
  obtain ⟨p0, p1, p2, p3, p4⟩ := RV.at kyh' hy
  have w1 : wrapF .i64 (Int.ofNat i + Int.ofNat 1) = Int.ofNat (i + 1) := i64_add (by omega)
  refine rT ?_ (V t2<|V t3<|V t5<|V c4<|V d4<|V hlx<|V hly<|V di<|V lt1<|V lt2<|V q0<|V q1<|V q2<|V q3<|V q4<|V p0<|V p1<|V p2<|V p3<|p4)
  rw [xr] at x1' x2'
  rw [yr] at y1' y2'
  have hrz := hr r (List.mem_of_getElem? hrr)
  have hsr := sameResC h r x.2.1 x.2.2 y.2.1 y.2.2 (SliceAt.only o02.1 x1' (fun _ _ => by simp)) (SliceAt.only o02.1 y1' (fun _ _ => by simp)) (SliceAt.only o02.1 x2' (fun _ _ => by simp)) (SliceAt.only o02.1 y2' (fun _ _ => by simp)) hrz
  unfold Res.cs at hsr
  rw [xr, yr]
  refine (hsr.call P).mono P ?_
  rintro _ h4 ⟨rfl, o4⟩
  have kx4 := SliceAt.only o4.1 kxh' (fun _ _ => by simp)
  have ky4 := SliceAt.only o4.1 kyh' (fun _ _ => by simp)
  obtain ⟨q0', q1', q2', q3', q4'⟩ := RV.at kx4 hx
  obtain ⟨p0', p1', p2', p3', p4'⟩ := RV.at ky4 hy
  rw [xr] at q1' q2' q3'
  rw [yr] at p1' p2' p3'
  obtain ⟨-, -, -, -, c4', -⟩ := (gC (gC C12 oo (by omega) (by simp)) o4 (by have := oo.1.1; omega) (by simp)).u9
  obtain ⟨-, -, -, -, d4', -⟩ := (gC (gC C2 oo (by omega) (by simp)) o4 (by have := oo.1.1; omega) (by simp)).u9
  refine rT ?_ (V t2<|V t3<|V t5<|V c4'<|V d4'<|V lt1<|V lt2<|V q0'<|V q1'<|V q2'<|V q3'<|V q4'<|V p0'<|V p1'<|V p2'<|V p3'<|V p4'<|V @Bool.not_true<|w1)
  exact ⟨rs.length - (i + 1), by omega, i + 1, rfl, rfl, by omega, by exact sT, by exact sT, by exact sT, oo.t o4⟩
 ·have di : decide (i < rs.length) = false := decide_eq_false hi
  refine rN ?_ (V t2<|V t3<|V t5<|V c4<|V hlx<|di)
  exact ⟨rfl, o12.t oo⟩
set_option maxHeartbeats 4000000 in
theorem sameMC (h0 : H) (bm bm2 b : Nat) (L : List Rec) (rev comp : Nat) (v v2 : AV) (md : MdAt h0 bm L rev comp v) (s : SrAt h0 b L rev comp v2 [] .nilslice 0) (km : cellAt h0 bm2 0 = some (.ptr b 0)) (lm : bm2 < h0.nx) (hz : L.length ≤ 1000000) : PushC P (.enter 11 [.ptr bm 0, .ptr bm2 0] h0) (SaysG h0 (.bool true)) := by
 have m0 := md.c0
 have m1 := md.c1
 have m2 := md.c2
 obtain ⟨c0, c1, c2, -⟩ := s.c.u8
 refine pushC_of_codeW (fn := Try.f11) (c := bodyC Try.f11) Try.func11 rfl ?_
 show codeW P 11 45 none _ _ _ _ _
 refine codeW_root ?_
 repeat' (first | ((with_reducible refine st1 ?_); (conv => whnf); (with_reducible refine ⟨?_⟩)) | ((with_reducible refine st_dw ?_ rfl rfl ?_ ?_); exact rfl; kernel_rfl; (conv => arg 5; whnf); (conv => arg 3; whnf)) | ((with_reducible refine retW_intro rfl ?_); (conv => arg 2; whnf)) | ((with_reducible first | refine iB ?_ ?_ | refine gWt ?_ ?_ | refine gWf ?_ ?_ | refine gXt ?_ ?_ | refine gXf ?_ ?_) <;> intro hb <;> (try simp only [hb])) | ((with_reducible show drawI _ _ _ _ _ _ _ _ _); first | ((with_reducible refine kI_rd ?_ ?_); exact rfl) | ((with_reducible apply kI_rg); exact rfl; exact rfl) | ((with_reducible refine kI_cv ?_ ?_ ?_); exact rfl; kernel_rfl) | ((with_reducible apply kI_al); exact rfl; exact rfl) | ((with_reducible refine kI_ex ?_ ?_ ?_ ?_ ?_); exact rfl; kernel_rfl; exact rfl) | ((with_reducible apply kI_eg); exact rfl; kernel_rfl; exact rfl) | ((with_reducible refine kI_nl ?_ ?_))) | ((with_reducible show eOk _ _ _ _ _ _); first | (exact eok_nil) | (refine ke_rd ?_ ?_ ?_; exact rfl) | (apply ke_rg; exact rfl; exact rfl) | (refine ke_cv ?_ ?_ ?_ ?_; exact rfl; kernel_rfl) | (apply ke_fl; exact rfl) | (apply ke_al; exact rfl; exact rfl)) | ((with_reducible refine freshIs_new ?_); kernel_rfl) | (simp only [B, xB, F, reduceLT, reduceLeDiff, reduceEqDiff, reduceAdd, reduceMul, reduceSub, ↓reduceIte, eq_self, m0, m1, m2, km, c0, c1, c2, beq_self_eq_true, decide_true]))
 refine ((sameRecs h0 v v2 L md.sl s.gv.slice hz).call P).mono P ?_
 rintro _ h1 ⟨rfl, o1⟩
 have m0' := kc m0 o1 md.lt (by simp)
 have m1' := kc m1 o1 md.lt (by simp)
 have m2' := kc m2 o1 md.lt (by simp)
 have km' := kc km o1 lm (by simp)
 obtain ⟨c0', c1', c2', -⟩ := (s.keep o1).c.u8
 repeat' (first | ((with_reducible refine st1 ?_); (conv => whnf); (with_reducible refine ⟨?_⟩)) | ((with_reducible refine st_dw ?_ rfl rfl ?_ ?_); exact rfl; kernel_rfl; (conv => arg 5; whnf); (conv => arg 3; whnf)) | ((with_reducible refine retW_intro rfl ?_); (conv => arg 2; whnf)) | ((with_reducible first | refine iB ?_ ?_ | refine gWt ?_ ?_ | refine gWf ?_ ?_ | refine gXt ?_ ?_ | refine gXf ?_ ?_) <;> intro hb <;> (try simp only [hb])) | ((with_reducible show drawI _ _ _ _ _ _ _ _ _); first | ((with_reducible refine kI_rd ?_ ?_); exact rfl) | ((with_reducible apply kI_rg); exact rfl; exact rfl) | ((with_reducible refine kI_cv ?_ ?_ ?_); exact rfl; kernel_rfl) | ((with_reducible apply kI_al); exact rfl; exact rfl) | ((with_reducible refine kI_ex ?_ ?_ ?_ ?_ ?_); exact rfl; kernel_rfl; exact rfl) | ((with_reducible apply kI_eg); exact rfl; kernel_rfl; exact rfl) | ((with_reducible refine kI_nl ?_ ?_))) | ((with_reducible show eOk _ _ _ _ _ _); first | (exact eok_nil) | (refine ke_rd ?_ ?_ ?_; exact rfl) | (apply ke_rg; exact rfl; exact rfl) | (refine ke_cv ?_ ?_ ?_ ?_; exact rfl; kernel_rfl) | (apply ke_fl; exact rfl) | (apply ke_al; exact rfl; exact rfl)) | ((with_reducible refine freshIs_new ?_); kernel_rfl) | (simp only [B, xB, F, reduceLT, reduceLeDiff, reduceEqDiff, reduceAdd, reduceMul, reduceSub, ↓reduceIte, eq_self, m0', m1', m2', km', c0', c1', c2', beq_self_eq_true, decide_true]))
 exact ⟨rfl, o1⟩
end
end Go.Proofs.Ytnedigoajoflaaa.M

namespace Go.Proofs.Ytnedigoajoflaaa.M
open Go Go.AX
noncomputable section
set_option maxRecDepth 100000
def cntK (k : List Nat) (l : List Op) : Nat := (l.filter fun o => (o.kind == .ofNat 1) && decide (o.key = k)).length
theorem putI_keys {k a : List Nat} {n : Nat} : ∀ {X : IV}, a ∈ (putI k n X).map (·.1) ↔ a = k ∨ a ∈ X.map (·.1)
 | [] => by simp [putI]
 | (b, x) :: X => by
  unfold putI
  by_cases q : k = b
  ·rw [if_pos q]; simp [q]
  ·rw [if_neg q, List.map_cons, List.mem_cons, putI_keys (X := X), List.map_cons, List.mem_cons]
   constructor
   ·rintro (h | h | h)
    ·exact .inr (.inl h)
    ·exact .inl h
    ·exact .inr (.inr h)
   ·rintro (h | h | h)
    ·exact .inr (.inl h)
    ·exact .inl h
    ·exact .inr (.inr h)
theorem putI_nd {k : List Nat} {n : Nat} : ∀ {X : IV}, (X.map (·.1)).Nodup → ((putI k n X).map (·.1)).Nodup
 | [], _ => by simp [putI]
 | (b, x) :: X, h => by
  rw [List.map_cons, List.nodup_cons] at h
  unfold putI
  by_cases q : k = b
  ·rw [if_pos q, List.map_cons, List.nodup_cons]; exact h
  ·rw [if_neg q, List.map_cons, List.nodup_cons]
   exact ⟨fun hm => by rcases putI_keys.1 hm with e | e; exact q e.symm; exact h.1 e, putI_nd h.2⟩
theorem getI_put (k a : List Nat) (n : Nat) : ∀ X : IV, getI k (putI a n X) = if k = a then n else getI k X
 | [] => by
  unfold putI getI
  rw [List.find?_cons]
  by_cases q : k = a <;> simp [q]
 | (b, x) :: X => by
  have ih := getI_put k a n X
  unfold putI
  by_cases q : a = b
  ·rw [if_pos q]
   unfold getI
   rw [List.find?_cons, List.find?_cons]
   by_cases q2 : k = a
   ·subst q; simp [q2]
   ·have : ¬ k = b := fun e => q2 (by rw [e, q])
    simp [q2, this]
  ·rw [if_neg q]
   unfold getI at ih ⊢
   rw [List.find?_cons, List.find?_cons]
   by_cases q2 : k = b
   ·have : ¬ k = a := fun e => q (by rw [← e, q2])
    simp [q2, this]
    intro e; exact absurd e (fun h => q h.symm)
   ·simp only [decide_eq_false q2]; exact ih
theorem getI_mem {k : List Nat} {n : Nat} : ∀ {X : IV}, (X.map (·.1)).Nodup → (k, n) ∈ X → getI k X = n
 | [], _, h => by cases h
 | (b, x) :: X, nd, h => by
  rw [List.map_cons, List.nodup_cons] at nd
  unfold getI
  rw [List.find?_cons]
  by_cases q : k = b
  ·simp only [q, decide_true]
   rcases List.mem_cons.1 h with e | e
   ·cases e; rfl
   ·exact absurd (List.mem_map.2 ⟨_, e, q⟩) nd.1
  ·simp only [decide_eq_false q]
   rcases List.mem_cons.1 h with e | e
   ·cases e; exact absurd rfl q
   ·exact getI_mem nd.2 e
theorem mem_getI {k : List Nat} : ∀ {X : IV}, k ∈ X.map (·.1) → (k, getI k X) ∈ X
 | [], h => by cases h
 | (b, x) :: X, h => by
  unfold getI
  rw [List.find?_cons]
  by_cases q : k = b
  ·simp only [q, decide_true]; simp
  ·simp only [decide_eq_false q]
   rw [List.map_cons, List.mem_cons] at h
   rcases h with e | e
   ·exact absurd e q
   ·exact List.mem_cons_of_mem _ (mem_getI e)
structure PuV (l : List Op) (X : IV) : Prop where
 nd : (X.map (·.1)).Nodup
 cnt : ∀ k, getI k X = cntK k l
 ky : ∀ k, k ∈ X.map (·.1) ↔ 0 < cntK k l
theorem cntK_app (k : List Nat) (a b : List Op) : cntK k (a ++ b) = cntK k a + cntK k b:= by unfold cntK; rw [List.filter_append, List.length_append]
theorem cntK_one (k : List Nat) (o : Op) : cntK k [o] = if (o.kind == .ofNat 1) = true ∧ o.key = k then 1 else 0 := by
 unfold cntK
 cases q : o.kind == .ofNat 1 with
 | false => rw [List.filter_cons_of_neg (by rw [q]; simp), if_neg (by simp)]; rfl
 | true =>
  by_cases q2 : o.key = k
  ·rw [List.filter_cons_of_pos (by rw [q, decide_eq_true q2]; rfl), if_pos ⟨rfl, q2⟩]; rfl
  ·rw [List.filter_cons_of_neg (by rw [q, decide_eq_false q2]; simp), if_neg (fun h => q2 h.2)]; rfl
theorem PuV.fold : ∀ (l l0 : List Op) (X : IV), PuV l0 X → PuV (l0 ++ l) (l.foldl bump X)
 | [], l0, X, h => by rw [List.append_nil]; exact h
 | o :: l, l0, X, h => by
  rw [List.foldl_cons, show l0 ++ o :: l = (l0 ++ [o]) ++ l by simp]
  refine PuV.fold l _ _ ?_
  unfold bump
  cases q : o.kind == .ofNat 1 with
  | false =>
   rw [if_neg (by simp)]
   have e : ∀ k, cntK k (l0 ++ [o]) = cntK k l0 := fun k => by rw [cntK_app, cntK_one, q]; simp
   exact ⟨h.nd, fun k => by rw [e, h.cnt], fun k => by rw [e, h.ky]⟩
  | true =>
   rw [if_pos rfl]
   have e : ∀ k, cntK k (l0 ++ [o]) = if k = o.key then cntK k l0 + 1 else cntK k l0 := fun k => by
    rw [cntK_app, cntK_one, q]
    by_cases q2 : k = o.key
    ·rw [if_pos q2, if_pos ⟨rfl, q2.symm⟩]
    ·rw [if_neg q2, if_neg (fun h => q2 h.2.symm)]; rfl
   refine ⟨putI_nd h.nd, fun k => ?_, fun k => ?_⟩
   ·rw [getI_put, e]
    by_cases q2 : k = o.key
    ·rw [if_pos q2, if_pos q2, h.cnt, q2]
    ·rw [if_neg q2, if_neg q2, h.cnt]
   ·rw [putI_keys, e, h.ky]
    by_cases q2 : k = o.key
    ·rw [if_pos q2]; simp [q2]
    ·rw [if_neg q2]; simp [q2]
theorem puts_ok (l : List Op) : PuV l (putsV l) := by
 have := PuV.fold l [] [] ⟨List.nodup_nil, fun k => rfl, fun k => by simp [cntK]⟩
 rw [List.nil_append] at this
 exact this
theorem cnt_pos {k : List Nat} {l : List Op} : 0 < cntK k l ↔ ∃ o, o ∈ l ∧ o.kind == .ofNat 1 ∧ o.key = k := by
 unfold cntK
 rw [List.length_pos_iff_exists_mem]
 constructor
 ·rintro ⟨o, ho⟩
  rw [List.mem_filter, Bool.and_eq_true, decide_eq_true_iff] at ho
  exact ⟨o, ho.1, ho.2.1, ho.2.2⟩
 ·rintro ⟨o, h1, h2, h3⟩
  exact ⟨o, List.mem_filter.2 ⟨h1, by rw [Bool.and_eq_true, decide_eq_true_iff]; exact ⟨h2, h3⟩⟩⟩
theorem cnt_two {k : List Nat} : ∀ {l : List Op}, 1 < cntK k l ↔ ∃ (i j : Nat) (x y : Op), i ≠ j ∧ l[i]? = some x ∧ l[j]? = some y ∧ x.kind == .ofNat 1 ∧ x.key = k ∧ y.kind == .ofNat 1 ∧ y.key = k
 | [] => by simp [cntK]
 | o :: l => by
  have ih := cnt_two (k := k) (l := l)
  have e : cntK k (o :: l) = cntK k [o] + cntK k l := cntK_app k [o] l
  rw [e, cntK_one]
  constructor
  ·intro h
   by_cases q : (o.kind == .ofNat 1) = true ∧ o.key = k
   ·rw [if_pos q] at h
    obtain ⟨y, hy, h1, h2⟩ := cnt_pos.1 (show 0 < cntK k l by omega)
    obtain ⟨j, hj⟩ := List.mem_iff_getElem?.1 hy
    exact ⟨0, j + 1, o, y, by omega, rfl, by simpa using hj, q.1, q.2, h1, h2⟩
   ·rw [if_neg q] at h
    obtain ⟨i, j, x, y, h1, h2, h3, h4⟩ := ih.1 (by omega)
    exact ⟨i + 1, j + 1, x, y, by omega, by simpa using h2, by simpa using h3, h4⟩
  ·rintro ⟨i, j, x, y, hne, hx, hy, h1, h2, h3, h4⟩
   cases i with
   | zero =>
    simp at hx; subst hx
    rw [if_pos ⟨h1, h2⟩]
    cases j with
    | zero => exact absurd rfl hne
    | succ j =>
     have : 0 < cntK k l := cnt_pos.2 ⟨y, List.mem_of_getElem? (by simpa using hy), h3, h4⟩
     omega
   | succ i =>
    cases j with
    | zero =>
     simp at hy; subst hy
     rw [if_pos ⟨h3, h4⟩]
     have : 0 < cntK k l := cnt_pos.2 ⟨x, List.mem_of_getElem? (by simpa using hx), h1, h2⟩
     omega
    | succ j =>
     have := ih.2 ⟨i, j, x, y, by omega, by simpa using hx, by simpa using hy, h1, h2, h3, h4⟩
     omega
theorem tw_eq (l : List Op) : TwEq l := by
 have pv := puts_ok l
 unfold TwEq Tw TwP
 constructor
 ·rintro ⟨i, k, x, y, hx, hy, hp⟩
  unfold pairB at hp
  rw [Bool.and_eq_true, Bool.or_eq_true, Bool.and_eq_true, Bool.and_eq_true, Bool.and_eq_true] at hp
  obtain ⟨h1, h2⟩ := hp
  have hpos : 0 < cntK x.key l := cnt_pos.2 ⟨x, List.mem_of_getElem? hx, h1, rfl⟩
  have hm := mem_getI ((pv.ky x.key).2 hpos)
  rcases h2 with ⟨⟨h2, h3⟩, h4⟩ | ⟨h2, h3⟩
  ·have h4 := of_decide_eq_true h4
   have hki : ¬ k = i:= by simpa using h2
   have : 1 < cntK x.key l := cnt_two.2 ⟨i, k, x, y, fun e => hki e.symm, hx, hy, h1, rfl, h3, h4⟩
   refine ⟨x, List.mem_of_getElem? hx, _, hm, ?_⟩
   unfold badB
   rw [pv.cnt, decide_eq_true this]; rfl
  ·refine ⟨y, List.mem_of_getElem? hy, _, hm, ?_⟩
   unfold badB
   simp only [h2, h3, Bool.and_self, Bool.or_true]
 ·rintro ⟨o, ho, ⟨k, n⟩, hp, hb⟩
  have hn := getI_mem pv.nd hp
  rw [pv.cnt] at hn
  have hpos := (pv.ky k).1 (List.mem_map.2 ⟨_, hp, rfl⟩)
  unfold badB at hb
  rw [Bool.or_eq_true, Bool.and_eq_true] at hb
  rcases hb with hb | ⟨hb1, hb2⟩
  ·have hb := of_decide_eq_true hb
   simp only at hb
   obtain ⟨i, j, x, y, hne, hx, hy, h1, h2, h3, h4⟩ := cnt_two.1 (show 1 < cntK k l by omega)
   refine ⟨i, j, x, y, hx, hy, ?_⟩
   unfold pairB
   have : ¬ j = i := fun e => hne e.symm
   rw [h1, h3, decide_eq_false this, decide_eq_true (h4.trans h2.symm)]; rfl
  ·obtain ⟨x, hx, h1, h2⟩ := cnt_pos.1 hpos
   obtain ⟨i, hi⟩ := List.mem_iff_getElem?.1 hx
   obtain ⟨j, hj⟩ := List.mem_iff_getElem?.1 ho
   refine ⟨i, j, x, o, hi, hj, ?_⟩
   unfold pairB
   subst h2
   simp only at hb2
   rw [h1, hb1, hb2, Bool.and_self, Bool.or_true, Bool.and_self]
structure Sized (n : Nat) (rev : Nat) (L : List Rec) : Prop where
 sh : Short L
 vw : (atV rev L).length ≤ n
 ln : L.length ≤ n * 300
theorem layV_tomb_len {W : View} {r : Rec} (h : r.tomb = true) : (layV W r).length ≤ W.length := by
 unfold layV; rw [if_pos h]; exact (delV_sub (k := r.kv.key) (W := W)).length_le
theorem drop_len {rev : Nat} : ∀ (l : List KV) (L R : List Rec), (atV (rev + 1) (L ++ dropRs rev R l)).length ≤ (atV (rev + 1) (L ++ R)).length
 | [], L, R => Nat.le_refl _
 | x :: l, L, R => by
  have h1 := drop_len (rev := rev) l L (goneR rev R x)
  have h2 : (atV (rev + 1) (L ++ goneR rev R x)).length ≤ (atV (rev + 1) (L ++ R)).length := by
   unfold goneR
   rw [← List.append_assoc, atV_app (rev + 1) _ (mkR rev R ⟨x.key, [], 0, 0, 0⟩ true) (Nat.le_refl _)]
   exact layV_tomb_len rfl
  exact Nat.le_trans h1 h2
theorem drop_short {rev : Nat} : ∀ (l : List KV) (L R : List Rec), (∀ x, x ∈ l → x.key.length ≤ 1000000) → Short (L ++ R) → Short (L ++ dropRs rev R l)
 | [], L, R, _, h => h
 | x :: l, L, R, hl, h => drop_short l L (goneR rev R x) (fun y hy => hl y (by simp [hy])) (by
  unfold goneR
  intro r hr
  rw [← List.append_assoc] at hr
  rcases List.mem_append.1 hr with q | q
  ·exact h r q
  ·rw [List.mem_singleton] at q; subst q; exact hl x (by simp))
theorem inV_short {m : Nat} {L : List Rec} (h : Short L) (key fin : List Nat) : ∀ x, x ∈ inV (atV m L) key fin → x.key.length ≤ 1000000 := by
 intro x hx
 obtain ⟨k, hk, -, rfl⟩ := (inV_mem key fin x).1 hx
 have v := atV_ok (main := m) h
 rw [getKV_key v hk]
 obtain ⟨p, hp, rfl⟩ := List.mem_map.1 hk
 exact (v.ky p hp).2
theorem opS_sized {n rev : Nat} {L R : List Rec} {op : Op} (hk : op.key.length ≤ 1000000) (h : Sized n (rev + 1) (L ++ R)) (hn : n ≤ 299) : Sized (n + 1) (rev + 1) (L ++ (opS rev L R op).2) := by
 obtain ⟨sh, vw, ln⟩ := h
 rw [List.length_append] at ln
 unfold opS
 split
 ·exact ⟨sh, by simp only; omega, by simp only [List.length_append]; omega⟩
 ·split
  ·refine ⟨?_, ?_, ?_⟩
   ·intro r hr
    simp only at hr
    rw [← List.append_assoc] at hr
    rcases List.mem_append.1 hr with q | q
    ·exact sh r q
    ·rw [List.mem_singleton] at q; subst q
     unfold mkR putKV
     split <;> exact hk
   ·simp only
    rw [← List.append_assoc, atV_app (rev + 1) _ (mkR rev R _ false) (Nat.le_refl _)]
    have := layV_len (atV (rev + 1) (L ++ R)) (mkR rev R (putKV rev op (getR op.key (atV (rev + 1) (L ++ R)))) false)
    omega
   ·simp only [List.length_append, List.length_cons, List.length_nil]; omega
  ·have hi := inV_len (atV (rev + 1) (L ++ R)) op.key op.fin
   refine ⟨drop_short _ _ _ (inV_short sh _ _) sh, ?_, ?_⟩
   ·have := drop_len (rev := rev) (inV (atV (rev + 1) (L ++ R)) op.key op.fin) L R
    simp only; omega
   ·simp only [List.length_append]
    have := dropRs_len rev (inV (atV (rev + 1) (L ++ R)) op.key op.fin) R
    omega
theorem opsS_sized {n rev : Nat} {L : List Rec} : ∀ (l : List Op) (i : Nat), i ≤ l.length → (∀ o, o ∈ l → o.key.length ≤ 1000000) → Sized n (rev + 1) L → n + l.length ≤ 299 → Sized (n + i) (rev + 1) (L ++ (opsS rev L (l.take i)).2)
 | l, 0, _, _, h, _ => by rw [List.take_zero]; show Sized n (rev + 1) (L ++ []); rw [List.append_nil]; exact h
 | l, i + 1, hi, hk, h, hn => by
  obtain ⟨o, ho⟩ : ∃ o, l[i]? = some o := ⟨_, List.getElem?_eq_getElem (by omega)⟩
  rw [opsS_s ho]
  have ih := opsS_sized l i (by omega) hk h hn
  exact opS_sized (hk o (List.mem_of_getElem? ho)) ih (show n + i ≤ 299 by omega)
end
end Go.Proofs.Ytnedigoajoflaaa.M

namespace Go.Proofs.Ytnedigoajoflaaa.M
open Go Go.AX
noncomputable section
set_option maxRecDepth 100000
theorem u9s : P.underlying 9 = some .string:= by kernel_rfl
theorem cutN (s : List Nat) (n : Nat) : sliceA P 9 (.str s) none (some (.int .i64 (.ofNat (min s.length n)))) none = some (.str (s.take n)) := by
 have hb : Nat.ble (min s.length n) s.length = true:= by rw [Nat.ble_eq]; omega
 simp only [sliceA, u9s, sliceStr, bndO, bnd, lenL_eq, hb, List.drop_zero, Nat.ble]
 congr 2
 rw [List.take_eq_take_iff]
 omega
theorem minN (a n : Nat) : (if Int.ofNat n < Int.ofNat a then Int.ofNat n else Int.ofNat a) = Int.ofNat (min a n) := by
 have : ∀ a n : Nat, (if (n : Int) < (a : Int) then (n : Int) else (a : Int)) = ((min a n : Nat) : Int) := fun a n => by split <;> omega
 exact this a n
def cutOp (o : Op) : Op := { o with key := o.key.take 20, fin := o.fin.take 20, val := o.val.take 40 }
def cutCmp (c : Cmp) : Cmp := { c with key := c.key.take 20, val := c.val.take 40 }
def cutO (l : List Op) : List Op := (l.take 8).map cutOp
def cutCs (l : List Cmp) : List Cmp := (l.take 6).map cutCmp
theorem cutO_s {l : List Op} {i : Nat} {x : Op} (hi : i < 8) (h : l[i]? = some x) : cutO (l.take (i + 1)) = cutO (l.take i) ++ [cutOp x] := by
 unfold cutO
 rw [List.take_take, List.take_take, Nat.min_eq_right (by omega), Nat.min_eq_right (by omega), List.take_add_one, h, List.map_append]; rfl
theorem cutC_s {l : List Cmp} {i : Nat} {x : Cmp} (hi : i < 6) (h : l[i]? = some x) : cutCs (l.take (i + 1)) = cutCs (l.take i) ++ [cutCmp x] := by
 unfold cutCs
 rw [List.take_take, List.take_take, Nat.min_eq_right (by omega), Nat.min_eq_right (by omega), List.take_add_one, h, List.map_append]; rfl
theorem cutO_len (l : List Op) (i : Nat) (hi : i ≤ l.length) (h8 : i ≤ 8) : (cutO (l.take i)).length = i := by
 unfold cutO; rw [List.length_map, List.length_take, List.length_take]; omega
theorem cutC_len (l : List Cmp) (i : Nat) (hi : i ≤ l.length) (h8 : i ≤ 6) : (cutCs (l.take i)).length = i := by
 unfold cutCs; rw [List.length_map, List.length_take, List.length_take]; omega
structure CoI (h0 : H) (va : AV) (l : List Op) (m : Nat) (ds : List Nat) (tm : T AV) (h : H) (i : Nat) (w : AV) : Prop where
 ds : ds = []
 nn : m = 8 - i
 ii : i ≤ l.length
 i8 : i ≤ 8
 t0 : tm.get 0 = some va
 t3 : tm.get 3 = some w
 t4 : tm.get 4 = some (.int .i64 (.ofNat i))
 gr : Grows 9 h0.nx h w i ((cutO (l.take i)).flatMap Op.cs)
 oo : Og h0 h []
set_option maxHeartbeats 8000000 in
theorem cutOpsC (h0 : H) (va : AV) (l : List Op) (sl : SliceAt h0 va l.length (l.flatMap Op.cs)) : PushC P (.enter 18 [va] h0) fun v h' => Og h0 h' [] ∧ Grows 9 h0.nx h' v (cutO l).length ((cutO l).flatMap Op.cs) := by
 have hlen := sl.len (P := P) u29a
 have vo := sl_one sl
 refine pushC_of_codeW (fn := Try.f18) (c := bodyC Try.f18) Try.func18 rfl ?_
 show codeW P 18 49 none _ _ _ _ _
 refine codeW_root ?_
 refine rN0 ?_
 refine st_loop (fun m ds tm h => ∃ i w, CoI h0 va l m ds tm h i w) 8 rfl ⟨0, .nilslice, rfl, rfl, Nat.zero_le _, by omega, by exact sT, by exact sT, by exact sT, Grows.none, Og.refl _ _⟩ (fun m ds tm h hI => ?_)
 obtain ⟨i, w, rfl, rfl, ii, i8, t0, t3, t4, gr, oo⟩ := hI
 have gro := gr.one
 have x0 := oo.1.1
 have fin : cutO l = cutO (l.take i) → Og h0 h [] ∧ Grows 9 h0.nx h w (cutO l).length ((cutO l).flatMap Op.cs) := fun e => by
  rw [e, cutO_len l i ii i8]; exact ⟨oo, gr⟩
 by_cases hi : i < l.length
 ·have di : decide (i < l.length) = true := decide_eq_true hi
  have lt1 : (i < l.length) = True:= by simp [hi]
  by_cases h8 : i < 8
  ·have d8 : decide (i < 8) = true := decide_eq_true h8
   obtain ⟨x, hx⟩ : ∃ x, l[i]? = some x := ⟨_, List.getElem?_eq_getElem hi⟩
   have slh := SliceAt.only oo.1 sl (fun _ _ => by simp)
   obtain ⟨bv, ov, cv, rfl, hbv, -⟩ := slh.place (by omega)
   obtain ⟨q0, q1, q2, q3, q4, q5, q6, q7, q8⟩ := Op.at slh hx
   obtain ⟨h2, h2e, o2, x2, y0, y1, y2, y3, y4, y5, y6, y7, y8⟩ := opBox h x
   have wy : wrAt h2 h.nx = true:= by rw [← h2e]; exact wr_box _ _ _ _
   have w1 : wrapF .i64 (Int.ofNat i + Int.ofNat 1) = Int.ofNat (i + 1) := i64_add (by omega)
   have m1 := minN x.key.length 20
   have m2 := minN x.fin.length 20
   have m3 := minN x.val.length 40
   have c1 := cutN x.key 20
   have c2 := cutN x.fin 20
   have c3 := cutN x.val 40
   obtain ⟨h3, h3e⟩ : ∃ h3, h3 = ((h2.sts h.nx 1 [.str (x.key.take 20)]).sts h.nx 2 [.str (x.fin.take 20)]).sts h.nx 3 [.str (x.val.take 40)] := ⟨_, rfl⟩
   have K3 := (((CellsAt.m9 y0 y1 y2 y3 y4 y5 y6 y7 y8).put wy (j := 1) (by simp) (.str (x.key.take 20))).put (by rw [wrAt_sts]; exact wy) (j := 2) (by simp) (.str (x.fin.take 20))).put (by rw [wrAt_sts, wrAt_sts]; exact wy) (j := 3) (by simp) (.str (x.val.take 40))
   rw [Nat.zero_add, Nat.zero_add, Nat.zero_add, ← h3e] at K3
   have K3' : CellsAt h3 h.nx 0 (cutOp x).cs := K3
   obtain ⟨z0, z1, z2, z3, z4, z5, z6, z7, z8⟩ := CellsAt.u9 (show CellsAt h3 h.nx 0 [.int .i64 x.kind, .str (x.key.take 20), .str (x.fin.take 20), .str (x.val.take 40), .int .u64 (.ofNat x.rev), .int .i64 x.limit, .bool x.count, .bool x.keys, .bool x.prev] from K3')
   have o3 : Og h h3 []:= by rw [h3e]; exact ((o2.sts (.inr (Nat.le_refl _))).sts (.inr (Nat.le_refl _))).sts (.inr (Nat.le_refl _))
   have x3 : h3.nx = h2.nx:= by rw [h3e, nx_sts, nx_sts, nx_sts]
   obtain ⟨h4, h4e⟩ : ∃ h4, h4 = h3.newCells 80 [.int .i64 x.kind, .str (x.key.take 20), .str (x.fin.take 20), .str (x.val.take 40), .int .u64 (.ofNat x.rev), .int .i64 x.limit, .bool x.count, .bool x.keys, .bool x.prev] := ⟨_, rfl⟩
   have o4 : Og h3 h4 []:= by rw [h4e]; exact (Og.refl _ _).new _ _
   have x4 : h4.nx = h3.nx + 1:= by rw [h4e]; rfl
   have hrow : h4.row h3.nx 0 9 = some (cutOp x).cs := row_ok (o := 0) (cs := (cutOp x).cs) (fun j hj => by rw [h4e, cellAt_new, Nat.zero_add, if_pos rfl]; rfl) (by simp [Op.cs])
   have o34 := o3.t o4
   have gr4 : Grows 9 h0.nx h4 w _ _ := gr.of_get o34.1.1 (fun c e => o34.1.2 c (gr.base e).2 (by simp))
   repeat' (first | ((with_reducible refine st1 ?_); (conv => whnf); (with_reducible refine ⟨?_⟩)) | ((with_reducible refine retW_intro rfl ?_); (conv => arg 2; whnf)) | ((with_reducible first | refine iB ?_ ?_ | refine gWt ?_ ?_ | refine gWf ?_ ?_) <;> intro hb <;> (try simp only [hb])) | (simp only [B, F, reduceLT, reduceLeDiff, reduceEqDiff, reduceAdd, reduceMul, reduceSub, ↓reduceIte, eq_self, t0, t3, t4, hlen, vo, di, lt1, d8, q0, q1, q2, q3, q4, q5, q6, q7, q8, h2e, wy, y0, y1, y2, y3, y4, y5, y6, y7, y8, m1, m2, m3, @ex_sl_h, c1, c2, c3, ← h3e, z0, z1, z2, z3, z4, z5, z6, z7, z8, gro, ← h4e, hrow]))
   refine exW_growsG (m := 1) (new := (cutOp x).cs) gr4 (by omega) (by omega) (by omega) rfl (by omega) (fun v7 h7 g7 x7 old7 bl7 gg7 => ?_)
   have g7o := g7.one
   refine rN ?_ (V t0<|V t3<|V t4<|V g7o<|w1)
   refine ⟨8 - (i + 1), by omega, i + 1, v7, rfl, rfl, by omega, by omega, by exact sT, by exact sT, by exact sT, by rw [cutO_s h8 hx, List.flatMap_append, List.flatMap_singleton]; exact g7, ⟨⟨by omega, fun c hc _ => ?_⟩, by rw [gg7, o34.2, oo.2]⟩⟩
   rw [old7 c (by omega) (fun e => by have := (gr.base e).1; omega), o34.1.2 c (by omega) (by simp), oo.1.2 c hc (by simp)]
  ·have d8 : decide (i < 8) = false := decide_eq_false h8
   obtain rfl : i = 8:= by omega
   refine rN ?_ (V t0<|V t3<|V t4<|V hlen<|V vo<|V di<|V d8<|gro)
   exact fin (by unfold cutO; rw [List.take_take]; rfl)
 ·have di : decide (i < l.length) = false := decide_eq_false hi
  obtain rfl : i = l.length:= by omega
  refine rN ?_ (V t0<|V t3<|V t4<|V hlen<|V vo<|V di<|gro)
  exact fin (by rw [List.take_length])
def cutR (r : Rq) : Rq := { r with cmps := cutCs r.cmps, th := cutO r.th, el := cutO r.el }
structure CuI (h0 : H) (b1 b2 : Nat) (rq : List AV) (l : List Cmp) (m : Nat) (ds : List Nat) (tm : T AV) (h : H) (i : Nat) (w : AV) : Prop where
 ds : ds = []
 nn : m = 6 - i
 ii : i ≤ l.length
 i6 : i ≤ 6
 t1 : tm.get 1 = some (.ptr b1 0)
 t2 : tm.get 2 = some (.ptr b2 0)
 t3 : tm.get 3 = some w
 t4 : tm.get 4 = some (.int .i64 (.ofNat i))
 gr : Grows 5 h0.nx h w i ((cutCs (l.take i)).flatMap Cmp.cs)
 oo : Og h0 h []
theorem cmpBox (h : H) (x : Cmp) : ∃ h1, (h.newCells 68 [.str [], .int .i64 (.ofNat 0), .int .i64 (.ofNat 0), .int .u64 (.ofNat 0), .str []]).sts h.nx 0 [.str x.key, .int .i64 x.what, .int .i64 x.how, .int .u64 (.ofNat x.n), .str x.val] = h1 ∧ Og h h1 [] ∧ h1.nx = h.nx + 1 ∧ wrAt h1 h.nx = true ∧ CellsAt h1 h.nx 0 x.cs :=
 ⟨_, rfl, ((Og.refl _ _).new _ _).sts (.inr (Nat.le_refl _)), by rw [nx_sts, nx_new], wr_box _ _ _ _, CellsAt.box _ _ _ _⟩
set_option maxHeartbeats 8000000 in
theorem cutC (h0 : H) (r : Rq) (vc vt ve : AV) (sc : SliceAt h0 vc r.cmps.length (r.cmps.flatMap Cmp.cs)) (st : SliceAt h0 vt r.th.length (r.th.flatMap Op.cs)) (se : SliceAt h0 ve r.el.length (r.el.flatMap Op.cs)) :
  PushC P (.enter 7 [.agg (r.cs vc vt ve)] h0) fun v h' => Og h0 h' [] ∧ ∃ wc wt we, v = .agg ((cutR r).cs wc wt we) ∧ RqAt h' (cutR r) wc wt we ∧ (∀ c, blkOf wc = some c → h0.nx ≤ c) ∧ (∀ c, blkOf wt = some c → h0.nx ≤ c) ∧ (∀ c, blkOf we = some c → h0.nx ≤ c) := by
 have oc := sl_one sc
 have ot := sl_one st
 have oe := sl_one se
 have hlen := sc.len (P := P) u28a
 obtain ⟨h1, h1e⟩ : ∃ h1, h1 = h0.newCells 31 (r.cs vc vt ve) := ⟨_, rfl⟩
 have bx := rqAll h0 r vc vt ve oc ot oe
 rw [← h1e] at bx
 have o1 : Og h0 h1 []:= by rw [h1e]; exact (Og.refl _ _).new _ _
 have x1 : h1.nx = h0.nx + 1:= by rw [h1e]; rfl
 have Y1 : CellsAt h1 h0.nx 0 (r.cs vc vt ve):= by rw [h1e]; exact CellsAt.new _ _ _
 have wy1 : wrAt h1 h0.nx = true:= by rw [h1e]; exact wr_new _ _ _
 obtain ⟨h2, h2e⟩ : ∃ h2, h2 = h1.newCells 31 [.int .i64 (.ofNat 0), .int .u64 (.ofNat 0), .int .u64 (.ofNat 0), .bool false, .nilslice, .nilslice, .nilslice, .int .u64 (.ofNat 0)] := ⟨_, rfl⟩
 have o2 : Og h1 h2 []:= by rw [h2e]; exact (Og.refl _ _).new _ _
 have x2 : h2.nx = h1.nx + 1:= by rw [h2e]; rfl
 have Z2 : CellsAt h2 h1.nx 0 [.int .i64 (.ofNat 0), .int .u64 (.ofNat 0), .int .u64 (.ofNat 0), .bool false, .nilslice, .nilslice, .nilslice, .int .u64 (.ofNat 0)]:= by rw [h2e]; exact CellsAt.new _ _ _
 have wz2 : wrAt h2 h1.nx = true:= by rw [h2e]; exact wr_new _ _ _
 have o02 := o1.t o2
 have Y2 := gC Y1 o2 (by omega) (by simp)
 have wy2 := kw wy1 o2 (by omega) (by simp)
 refine pushC_of_codeW (fn := Try.f7) (c := bodyC Try.f7) Try.func7 rfl ?_
 show codeW P 7 53 none _ _ _ _ _
 refine codeW_root ?_
 refine rN ?_ (V bx<|h2e.symm)
 refine st_loop (fun m ds tm h => ∃ i w, CuI h2 h0.nx h1.nx (r.cs vc vt ve) r.cmps m ds tm h i w) 6 rfl ⟨0, .nilslice, rfl, rfl, Nat.zero_le _, by omega, by exact sT, by exact sT, by exact sT, by exact sT, Grows.none, Og.refl _ _⟩ (fun m ds tm h hI => ?_)
 obtain ⟨i, w, rfl, rfl, ii, i6, t1, t2, t3, t4, gr, oo⟩ := hI
 have gro := gr.one
 have x0 := oo.1.1
 have Yh := gC Y2 oo (by omega) (by simp)
 have wyh := kw wy2 oo (by omega) (by simp)
 obtain ⟨y0, y1, y2, y3, y4, y5, y6, y7⟩ := Yh.u8
 -- behind the loop
 have fin : cutCs r.cmps = cutCs (r.cmps.take i) → ∀ tm2 : T AV, tm2.get 1 = some (.ptr h0.nx 0) → tm2.get 2 = some (.ptr h1.nx 0) → tm2.get 3 = some w →
   codeW P 7 53 none (codeI (bodyC Try.f7) [1, 1, 1]) [] tm2 h (retK P Try.f7 fun v h' => Og h0 h' [] ∧ ∃ wc wt we, v = .agg ((cutR r).cs wc wt we) ∧ RqAt h' (cutR r) wc wt we ∧ (∀ c, blkOf wc = some c → h0.nx ≤ c) ∧ (∀ c, blkOf wt = some c → h0.nx ≤ c) ∧ (∀ c, blkOf we = some c → h0.nx ≤ c)) := by
  intro ec tm2 u1 u2 u3
  have grc := gr.cells
  have hlc : (cutCs r.cmps).length = i:= by rw [ec, cutC_len r.cmps i ii i6]
  rw [← ec, ← hlc] at gr
  obtain ⟨h3, h3e⟩ : ∃ h3, h3 = h.sts h0.nx 4 [w] := ⟨_, rfl⟩
  have Y3 := Yh.put wyh (j := 4) (by simp [Rq.cs]) w
  rw [Nat.zero_add, ← h3e] at Y3
  have Y3' : CellsAt h3 h0.nx 0 [.int .i64 r.kind, .int .u64 (.ofNat r.client), .int .u64 (.ofNat r.num), .bool r.serial, w, vt, ve, .int .u64 (.ofNat r.rev)] := Y3
  have wy3 : wrAt h3 h0.nx = true:= by rw [h3e, wrAt_sts]; exact wyh
  have o3 : Og h h3 [h0.nx]:= by rw [h3e]; exact (Og.refl _ _).sts (.inl (by simp))
  have o03 : Og h0 h3 []:= by rw [h3e]; exact (o02.t oo).sts (.inr (Nat.le_refl _))
  have x3 : h3.nx = h.nx:= by rw [h3e, nx_sts]
  obtain ⟨z0, z1, z2, z3, z4, z5, z6, z7⟩ := Y3'.u8
  refine rN ?_ (V u1<|V u2<|V u3<|V y0<|V y1<|V y2<|V y3<|V y4<|V y5<|V y6<|V y7<|V wyh<|V gro<|V grc<|V h3e.symm<|V z5<|ot)
  refine ((cutOpsC h3 vt r.th (SliceAt.only o03.1 st (fun _ _ => by simp))).call P).mono P ?_
  rintro wt h4 ⟨o4, g4⟩
  have g4o := g4.one
  have g4c := g4.cells
  have x4 := o4.1.1
  have Y4 := gC Y3' o4 (by omega) (by simp)
  have wy4 := kw wy3 o4 (by omega) (by simp)
  obtain ⟨h5, h5e⟩ : ∃ h5, h5 = h4.sts h0.nx 5 [wt] := ⟨_, rfl⟩
  have Y5 := Y4.put wy4 (j := 5) (by simp) wt
  rw [Nat.zero_add, ← h5e] at Y5
  have Y5' : CellsAt h5 h0.nx 0 [.int .i64 r.kind, .int .u64 (.ofNat r.client), .int .u64 (.ofNat r.num), .bool r.serial, w, wt, ve, .int .u64 (.ofNat r.rev)] := Y5
  have wy5 : wrAt h5 h0.nx = true:= by rw [h5e, wrAt_sts]; exact wy4
  have o5 : Og h4 h5 [h0.nx]:= by rw [h5e]; exact (Og.refl _ _).sts (.inl (by simp))
  have o05 : Og h0 h5 []:= by rw [h5e]; exact (o03.t o4).sts (.inr (Nat.le_refl _))
  have x5 : h5.nx = h4.nx:= by rw [h5e, nx_sts]
  obtain ⟨-, -, -, -, -, y45, -, -⟩ := Y4.u8
  obtain ⟨-, -, -, -, -, -, z56, -⟩ := Y5'.u8
  refine rN ?_ (V u1<|V u2<|V g4o<|V g4c<|V y45<|V wy4<|V h5e.symm<|V z56<|oe)
  refine ((cutOpsC h5 ve r.el (SliceAt.only o05.1 se (fun _ _ => by simp))).call P).mono P ?_
  rintro we h6 ⟨o6, g6⟩
  have g6o := g6.one
  have g6c := g6.cells
  have x6 := o6.1.1
  have Y6 := gC Y5' o6 (by omega) (by simp)
  have wy6 := kw wy5 o6 (by omega) (by simp)
  obtain ⟨h7, h7e⟩ : ∃ h7, h7 = h6.sts h0.nx 6 [we] := ⟨_, rfl⟩
  have Y7 := Y6.put wy6 (j := 6) (by simp) we
  rw [Nat.zero_add, ← h7e] at Y7
  have Y7' : CellsAt h7 h0.nx 0 [.int .i64 r.kind, .int .u64 (.ofNat r.client), .int .u64 (.ofNat r.num), .bool r.serial, w, wt, we, .int .u64 (.ofNat r.rev)] := Y7
  have o7 : Og h6 h7 [h0.nx]:= by rw [h7e]; exact (Og.refl _ _).sts (.inl (by simp))
  have o07 : Og h0 h7 []:= by rw [h7e]; exact (o05.t o6).sts (.inr (Nat.le_refl _))
  have x7 : h7.nx = h6.nx:= by rw [h7e, nx_sts]
  obtain ⟨-, -, -, -, -, -, y66, -⟩ := Y6.u8
  obtain ⟨a0, a1, a2, a3, a4, a5, a6, a7⟩ := Y7'.u8
  have k37 : ∀ c, c < h.nx → c ≠ h0.nx → h7.t.get c = h.t.get c := fun c hc hn => by rw [o7.1.2 c (by omega) (by simp [hn]), o6.1.2 c (by omega) (by simp), o5.1.2 c (by omega) (by simp [hn]), o4.1.2 c (by omega) (by simp), o3.1.2 c hc (by simp [hn])]
  have Z7 := (gC Z2 oo (by omega) (by simp)).of_get (k37 h1.nx (by omega) (by omega))
  have wz7 : wrAt h7 h1.nx = true:= by rw [wrAt_of_get (k37 h1.nx (by omega) (by omega))]; exact kw wz2 oo (by omega) (by simp)
  obtain ⟨b0, b1, b2, b3, b4, b5, b6, b7⟩ := Z7.u8
  obtain ⟨h8, h8e⟩ : ∃ h8, h8 = h7.sts h1.nx 0 [.int .i64 r.kind, .int .u64 (.ofNat r.client), .int .u64 (.ofNat r.num), .bool r.serial, w, wt, we, .int .u64 (.ofNat r.rev)] := ⟨_, rfl⟩
  have Z8 : CellsAt h8 h1.nx 0 [.int .i64 r.kind, .int .u64 (.ofNat r.client), .int .u64 (.ofNat r.num), .bool r.serial, w, wt, we, .int .u64 (.ofNat r.rev)]:= by rw [h8e]; exact CellsAt.sts wz7 _
  obtain ⟨c0, c1, c2, c3, c4, c5, c6, c7⟩ := Z8.u8
  have k8 : ∀ c, c ≠ h1.nx → h8.t.get c = h7.t.get c := fun c hc => by rw [h8e, get_sts _ _ _ _ hc]
  have x8 : h8.nx = h7.nx:= by rw [h8e, nx_sts]
  refine rN ?_ (V u1<|V u2<|V g6o<|V g6c<|V y66<|V wy6<|V h7e.symm<|V a0<|V a1<|V a2<|V a3<|V a4<|V a5<|V a6<|V a7<|V gro<|V g4o<|V b0<|V b1<|V b2<|V b3<|V b4<|V b5<|V b6<|V b7<|V wz7<|V h8e.symm<|V c0<|V c1<|V c2<|V c3<|V c4<|V c5<|V c6<|c7)
  have wb : ∀ c, blkOf w = some c → h2.nx ≤ c ∧ c < h.nx := fun c e => gr.base e
  have tb : ∀ c, blkOf wt = some c → h3.nx ≤ c ∧ c < h4.nx := fun c e => g4.base e
  have eb : ∀ c, blkOf we = some c → h5.nx ≤ c ∧ c < h6.nx := fun c e => g6.base e
  refine ⟨by rw [h8e]; exact o07.sts (.inr (by omega)), w, wt, we, rfl, ⟨?_, ?_, ?_, ?_, ?_, ?_⟩, fun c e => by have := wb c e; omega, fun c e => by have := tb c e; omega, fun c e => by have := eb c e; omega⟩
  ·exact gr.slice.move (by omega) (fun c e => by have := wb c e; rw [k8 c (by omega), k37 c (by omega) (by omega)])
  ·exact g4.slice.move (by omega) (fun c e => by have := tb c e; rw [k8 c (by omega), o7.1.2 c (by omega) (by simp; omega), o6.1.2 c (by omega) (by simp), o5.1.2 c (by omega) (by simp; omega)])
  ·exact g6.slice.move (by omega) (fun c e => by have := eb c e; rw [k8 c (by omega), o7.1.2 c (by omega) (by simp; omega)])
  ·show (cutCs r.cmps).length ≤ _; omega
  ·show (cutO r.th).length ≤ _; unfold cutO; rw [List.length_map, List.length_take]; omega
  ·show (cutO r.el).length ≤ _; unfold cutO; rw [List.length_map, List.length_take]; omega
 by_cases hi : i < r.cmps.length
 ·have di : decide (i < r.cmps.length) = true := decide_eq_true hi
  have lt1 : (i < r.cmps.length) = True:= by simp [hi]
  by_cases h6 : i < 6
  ·have d6 : decide (i < 6) = true := decide_eq_true h6
   obtain ⟨x, hx⟩ : ∃ x, r.cmps[i]? = some x := ⟨_, List.getElem?_eq_getElem hi⟩
   have slh := SliceAt.only (o02.t oo).1 sc (fun _ _ => by simp)
   clear fin
   obtain ⟨bv, ov, cv, rfl, hbv, -⟩ := slh.place (by omega)
   obtain ⟨q0, q1, q2, q3, q4⟩ := Cmp.at slh hx
   obtain ⟨h3, h3e, o3, x3, wk, K3⟩ := cmpBox h x
   obtain ⟨k0, k1, k2, k3, k4⟩ := CellsAt.u5 (show CellsAt h3 h.nx 0 [.str x.key, .int .i64 x.what, .int .i64 x.how, .int .u64 (.ofNat x.n), .str x.val] from K3)
   have w1 : wrapF .i64 (Int.ofNat i + Int.ofNat 1) = Int.ofNat (i + 1) := i64_add (by omega)
   have m1 := minN x.key.length 20
   have m3 := minN x.val.length 40
   have c1 := cutN x.key 20
   have c3 := cutN x.val 40
   obtain ⟨h4, h4e⟩ : ∃ h4, h4 = (h3.sts h.nx 0 [.str (x.key.take 20)]).sts h.nx 4 [.str (x.val.take 40)] := ⟨_, rfl⟩
   have K4 := (K3.put wk (j := 0) (by simp [Cmp.cs]) (.str (x.key.take 20))).put (by rw [wrAt_sts]; exact wk) (j := 4) (by simp [Cmp.cs]) (.str (x.val.take 40))
   rw [Nat.zero_add, Nat.zero_add, ← h4e] at K4
   obtain ⟨z0, z1, z2, z3, z4⟩ := CellsAt.u5 (show CellsAt h4 h.nx 0 [.str (x.key.take 20), .int .i64 x.what, .int .i64 x.how, .int .u64 (.ofNat x.n), .str (x.val.take 40)] from K4)
   have o4 : Og h h4 []:= by rw [h4e]; exact (o3.sts (.inr (Nat.le_refl _))).sts (.inr (Nat.le_refl _))
   have x4 : h4.nx = h3.nx:= by rw [h4e, nx_sts, nx_sts]
   obtain ⟨h5, h5e⟩ : ∃ h5, h5 = h4.newCells 68 [.str (x.key.take 20), .int .i64 x.what, .int .i64 x.how, .int .u64 (.ofNat x.n), .str (x.val.take 40)] := ⟨_, rfl⟩
   have o5 : Og h4 h5 []:= by rw [h5e]; exact (Og.refl _ _).new _ _
   have x5 : h5.nx = h4.nx + 1:= by rw [h5e]; rfl
   have hrow : h5.row h4.nx 0 5 = some (cutCmp x).cs := row_ok (o := 0) (cs := (cutCmp x).cs) (fun j hj => by rw [h5e, cellAt_new, Nat.zero_add, if_pos rfl]; rfl) (by simp [Cmp.cs])
   have o45 := o4.t o5
   have gr5 : Grows 5 h2.nx h5 w _ _ := gr.of_get o45.1.1 (fun c e => o45.1.2 c (gr.base e).2 (by simp))
   repeat' (first | ((with_reducible refine st1 ?_); (conv => whnf); (with_reducible refine ⟨?_⟩)) | ((with_reducible refine retW_intro rfl ?_); (conv => arg 2; whnf)) | ((with_reducible first | refine iB ?_ ?_ | refine gWt ?_ ?_ | refine gWf ?_ ?_) <;> intro hb <;> (try simp only [hb])) | (simp only [B, F, reduceLT, reduceLeDiff, reduceEqDiff, reduceAdd, reduceMul, reduceSub, ↓reduceIte, eq_self, t1, t2, t3, t4, y4, hlen, oc, di, lt1, d6, q0, q1, q2, q3, q4, h3e, wk, k0, k1, k2, k3, k4, m1, m3, @ex_sl_h, c1, c3, ← h4e, z0, z1, z2, z3, z4, gro, ← h5e, hrow]))
   refine exW_growsG (m := 1) (new := (cutCmp x).cs) gr5 (by omega) (by omega) (by omega) rfl (by omega) (fun v7 h7 g7 x7 old7 bl7 gg7 => ?_)
   have g7o := g7.one
   refine rN ?_ (V t1<|V t2<|V t3<|V t4<|V g7o<|w1)
   refine ⟨6 - (i + 1), by omega, i + 1, v7, rfl, rfl, by omega, by omega, by exact sT, by exact sT, by exact sT, by exact sT, by rw [cutC_s h6 hx, List.flatMap_append, List.flatMap_singleton]; exact g7, ⟨⟨by omega, fun c hc _ => ?_⟩, by rw [gg7, o45.2, oo.2]⟩⟩
   rw [old7 c (by omega) (fun e => by have := (gr.base e).1; omega), o45.1.2 c (by omega) (by simp), oo.1.2 c hc (by simp)]
  ·have d6 : decide (i < 6) = false := decide_eq_false h6
   obtain rfl : i = 6:= by omega
   repeat' (first | (with_reducible refine stopC [1, 1, 1] ?_) | ((with_reducible refine st1 ?_); (conv => whnf); (with_reducible refine ⟨?_⟩)) | ((with_reducible refine retW_intro rfl ?_); (conv => arg 2; whnf)) | ((with_reducible first | refine iB ?_ ?_ | refine gWt ?_ ?_ | refine gWf ?_ ?_) <;> intro hb <;> (try simp only [hb])) | (simp only [B, F, reduceLT, reduceLeDiff, reduceEqDiff, reduceAdd, reduceMul, reduceSub, ↓reduceIte, eq_self, t1, t2, t3, t4, y4, hlen, oc, di, d6]))
   refine ⟨?_⟩
   exact fin (by unfold cutCs; rw [List.take_take]; rfl) _ (by exact sT) (by exact sT) (by exact sT)
 ·have di : decide (i < r.cmps.length) = false := decide_eq_false hi
  obtain rfl : i = r.cmps.length:= by omega
  repeat' (first | (with_reducible refine stopC [1, 1, 1] ?_) | ((with_reducible refine st1 ?_); (conv => whnf); (with_reducible refine ⟨?_⟩)) | ((with_reducible refine retW_intro rfl ?_); (conv => arg 2; whnf)) | ((with_reducible first | refine iB ?_ ?_ | refine gWt ?_ ?_ | refine gWf ?_ ?_) <;> intro hb <;> (try simp only [hb])) | (simp only [B, F, reduceLT, reduceLeDiff, reduceEqDiff, reduceAdd, reduceMul, reduceSub, ↓reduceIte, eq_self, t1, t2, t3, t4, y4, hlen, oc, di]))
  refine ⟨?_⟩
  exact fin (by rw [List.take_length]) _ (by exact sT) (by exact sT) (by exact sT)
end
end Go.Proofs.Ytnedigoajoflaaa.M

namespace Go.Proofs.Ytnedigoajoflaaa.M
open Go Go.AX
noncomputable section
set_option maxRecDepth 100000
theorem works12 : yes (callA P sortedK 100000 12 [] ⟨.e, 0, 0⟩) = true:= by kernel_rfl
theorem known12 : KnownOk P 12 (.bool true) := fun w =>
 (calls_true sortedK_ok works12 w).mono fun e w' h => ⟨fun _ => none, .bool true, h.1, by simp, h.2⟩
theorem worksC (h : H) : CallC P (.enter 12 [] h) (SaysG h (.bool true)) :=
 CallC.of_hook P (knownHook_ok (by kernel_rfl) known12) (v := .bool true) (h' := h) rfl ⟨rfl, Og.refl _ _⟩
end
end Go.Proofs.Ytnedigoajoflaaa.M

namespace Go.Proofs.Ytnedigoajoflaaa.M
open Go Go.AX
noncomputable section
set_option maxRecDepth 100000
theorem brV_len (r : Rq) (tk : Bool) : (brV (cutR r) tk).length ≤ 8 := by
 unfold brV cutR cutO
 split <;> (simp only [List.length_map, List.length_take]; omega)
theorem brV_key (r : Rq) (tk : Bool) : ∀ o, o ∈ brV (cutR r) tk → o.key.length ≤ 1000000 := by
 have h : ∀ (l : List Op) o, o ∈ cutO l → o.key.length ≤ 1000000 := fun l o ho => by
  unfold cutO at ho
  obtain ⟨x, -, rfl⟩ := List.mem_map.1 ho
  show (x.key.take 20).length ≤ _
  rw [List.length_take]; omega
 unfold brV
 split
 ·exact h _
 ·exact h _
theorem checkR_len {r : Rq} (h : checkR r = 0) (tk : Bool) : (brV r tk).length ≤ 6 := by
 unfold checkR at h
 split at h
 ·rename_i q
  unfold brV
  split
  ·exact q.2.2.1
  ·exact q.2.2.2.1
 ·cases h
theorem Sized.mono {n m rev : Nat} {L : List Rec} (h : Sized n rev L) (hm : n ≤ m) : Sized m rev L := ⟨h.sh, Nat.le_trans h.vw hm, Nat.le_trans h.ln (Nat.mul_le_mul_right _ hm)⟩
theorem Sized.up {n rev : Nat} {L : List Rec} (h : Sized n rev L) (hm : ∀ x, x ∈ L → x.main ≤ rev) : Sized n (rev + 1) L := ⟨h.sh, by rw [← atV_up hm]; exact h.vw, h.ln⟩
structure MOk (n rev : Nat) (L : List Rec) : Prop where
 sz : Sized n rev L
 mn : ∀ x, x ∈ L → x.main ≤ rev
theorem short_app {L R : List Rec} (h : Short (L ++ R)) : Short R := fun r hr => h r (by simp [hr])
theorem MOk.ops {n rev : Nat} {L : List Rec} (h : MOk n rev L) (hn : n ≤ 240) (r : Rq) (tk : Bool) (i : Nat) (hi : i ≤ (brV (cutR r) tk).length) : Sized (n + i) (rev + 1) (L ++ (opsS rev L ((brV (cutR r) tk).take i)).2) :=
 opsS_sized _ i hi (brV_key r tk) (h.sz.up h.mn) (by have := brV_len r tk; omega)
theorem MOk.hB {n rev : Nat} {L : List Rec} (h : MOk n rev L) (hn : n ≤ 240) (r : Rq) (tk : Bool) (i : Nat) (hi : i ≤ (brV (cutR r) tk).length) : Short (opsS rev L ((brV (cutR r) tk).take i)).2 ∧ (opsS rev L ((brV (cutR r) tk).take i)).2.length ≤ 200000 := by
 have s := h.ops hn r tk i hi
 have := brV_len r tk
 have h2 := s.ln
 rw [List.length_append] at h2
 exact ⟨short_app s.sh, by omega⟩
theorem txn_cases (rev comp : Nat) (L : List Rec) (r : Rq) : ((txnS rev comp L r).rs = [] ∧ (txnS rev comp L r).R = []) ∨ (checkR r = 0 ∧ ∃ tk, (txnS rev comp L r).rs = (opsS rev L (brV r tk)).1 ∧ (txnS rev comp L r).R = (opsS rev L (brV r tk)).2) := by
 unfold txnS
 split
 ·rename_i q
  split
  ·exact .inl ⟨rfl, rfl⟩
  ·split
   ·exact .inr ⟨q, _, rfl, rfl⟩
   ·exact .inl ⟨rfl, rfl⟩
 ·exact .inl ⟨rfl, rfl⟩
theorem apply_ok {n rev comp : Nat} {L : List Rec} (h : MOk n rev L) (hn : n ≤ 240) (r : Rq) : MOk (n + 6) (applyS rev comp L (cutR r)).rev (L ++ (applyS rev comp L (cutR r)).R) ∧ (applyS rev comp L (cutR r)).rev ≤ rev + 1 := by
 unfold applyS
 split
 ·simp only
  rcases txn_cases rev comp L (cutR r) with ⟨-, e⟩ | ⟨hc, tk, -, e⟩
  ·rw [e, if_pos rfl, List.append_nil]
   exact ⟨⟨h.sz.mono (by omega), h.mn⟩, by omega⟩
  ·rw [e]
   have s := h.ops hn r tk _ (Nat.le_refl _)
   have hm := opsS_main (rev := rev) (L := L) (brV (cutR r) tk) _ (Nat.le_refl _)
   rw [List.take_length] at s hm
   have hl := checkR_len hc tk
   by_cases q : (opsS rev L (brV (cutR r) tk)).2 = []
   ·rw [if_pos q, q, List.append_nil]
    exact ⟨⟨h.sz.mono (by omega), h.mn⟩, by omega⟩
   ·rw [if_neg q]
    refine ⟨⟨s.mono (by omega), fun x hx => ?_⟩, by omega⟩
    rcases List.mem_append.1 hx with q | q
    ·have := h.mn x q; omega
    ·rw [hm x q]; exact Nat.le_refl _
 ·split
  ·rw [List.append_nil]; exact ⟨⟨h.sz.mono (by omega), h.mn⟩, Nat.le_succ _⟩
  ·rw [List.append_nil]; exact ⟨⟨h.sz.mono (by omega), h.mn⟩, Nat.le_succ _⟩
theorem opS_res {rev : Nat} {L R : List Rec} {op : Op} (hs : Short L) (hsR : Short (L ++ R)) (hz : (L ++ R).length ≤ 900000) : (opS rev L R op).1.kvs.length ≤ 1000000 ∧ (opS rev L R op).1.prev.length ≤ 1000000 := by
 have hi : ∀ (m : Nat) (M : List Rec), Short M → M.length ≤ 900000 → (inV (atV m M) op.key op.fin).length ≤ 900000 := fun m M h1 h2 => by
  have := inV_len (atV m M) op.key op.fin
  have := atV_len (main := m) h1
  omega
 have hzL : L.length ≤ 900000:= by rw [List.length_append] at hz; omega
 unfold opS
 split
 ·have : (inV (rangeV rev L R op) op.key op.fin).length ≤ 900000 := by
   unfold rangeV
   split
   ·exact hi _ _ hs hzL
   ·exact hi _ _ hsR hz
  simp only
  unfold resS
  split
  ·exact ⟨Nat.zero_le _, Nat.zero_le _⟩
  ·refine ⟨?_, Nat.zero_le _⟩
   simp only [List.length_map, List.length_take]; omega
 ·split
  ·refine ⟨Nat.zero_le _, ?_⟩
   simp only
   unfold putR
   split
   ·simp only; cases getR op.key (atV (rev + 1) (L ++ R)) <;> simp
   ·exact Nat.zero_le _
  ·have := hi (rev + 1) _ hsR hz
   refine ⟨Nat.zero_le _, ?_⟩
   simp only
   unfold dropR
   split
   ·simp only; omega
   ·exact Nat.zero_le _
theorem opsS_res {rev : Nat} {L : List Rec} (hs : Short L) : ∀ (l : List Op) (i : Nat), i ≤ l.length → (∀ j, j ≤ l.length → Short (L ++ (opsS rev L (l.take j)).2) ∧ (L ++ (opsS rev L (l.take j)).2).length ≤ 900000) → ∀ x, x ∈ (opsS rev L (l.take i)).1 → x.kvs.length ≤ 1000000 ∧ x.prev.length ≤ 1000000
 | l, 0, _, _ => by rw [List.take_zero]; intro x hx; cases hx
 | l, i + 1, hi, hB => by
  obtain ⟨o, ho⟩ : ∃ o, l[i]? = some o := ⟨_, List.getElem?_eq_getElem (by omega)⟩
  rw [opsS_s ho]
  intro x hx
  unfold opsF at hx
  rcases List.mem_append.1 hx with q | q
  ·exact opsS_res hs l i (by omega) hB x q
  ·rw [List.mem_singleton] at q; subst q
   exact opS_res hs (hB i (by omega)).1 (hB i (by omega)).2
theorem apply_rs {n rev comp : Nat} {L : List Rec} (h : MOk n rev L) (hn : n ≤ 240) (r : Rq) : (applyS rev comp L (cutR r)).rs.length ≤ 1000000 ∧ ∀ x, x ∈ (applyS rev comp L (cutR r)).rs → x.kvs.length ≤ 1000000 ∧ x.prev.length ≤ 1000000 := by
 unfold applyS
 split
 ·simp only
  rcases txn_cases rev comp L (cutR r) with ⟨e, -⟩ | ⟨hc, tk, e, -⟩
  ·rw [e]; exact ⟨Nat.zero_le _, fun x hx => by cases hx⟩
  ·rw [e]
   refine ⟨by rw [opsS_len]; have := brV_len r tk; omega, ?_⟩
   have := opsS_res (rev := rev) h.sz.sh (brV (cutR r) tk) _ (Nat.le_refl _) (fun j hj => by
    have s := h.ops hn r tk j hj
    have := s.ln
    have := brV_len r tk
    exact ⟨s.sh, by omega⟩)
   rw [List.take_length] at this
   exact this
 ·split <;> exact ⟨Nat.zero_le _, fun x hx => by cases hx⟩
end
end Go.Proofs.Ytnedigoajoflaaa.M

namespace Go.Proofs.Ytnedigoajoflaaa.M
open Go Go.AX
noncomputable section
set_option maxRecDepth 100000
theorem rO3MoYx {p q r : Prop} (hq : q) (fs : r) (f : r → q → p:= by intro fs hq; (repeat' (first | ((with_reducible refine st1 ?_); (conv => whnf); (with_reducible refine ⟨?_⟩)) | ((with_reducible refine st_dp ord3_0 ?_ rfl rfl ?_); exact rfl; (conv => arg 4; whnf); (conv => arg 3; whnf)) | ((with_reducible refine retW_intro rfl ?_); (conv => arg 2; whnf)) | ((with_reducible first | refine iB ?_ ?_ | refine gWt ?_ ?_ | refine gWf ?_ ?_ | refine gXt ?_ ?_ | refine gXf ?_ ?_) <;> intro hb <;> (try simp only [hb])) | ((with_reducible show drawP _ _ _ _ _ _ _ _ _); first | ((with_reducible apply kP_rd); exact rfl; exact rfl) | ((with_reducible apply kP_rg); exact rfl; exact rfl; exact rfl) | ((with_reducible apply kP_cv); exact rfl; exact rfl; kernel_rfl) | ((with_reducible apply kP_al); exact rfl; exact rfl; exact rfl) | ((with_reducible apply kP_fl); exact rfl; exact rfl; exact rfl) | ((with_reducible apply kP_ex); exact rfl; exact rfl; kernel_rfl; exact rfl) | ((with_reducible apply kP_eg); exact rfl; exact rfl; kernel_rfl; exact rfl) | ((with_reducible refine kP_nl ?_ ?_))) | ((with_reducible show eOk _ _ _ _ _ _); first | (exact eok_nil) | (refine ke_rd ?_ ?_ ?_; exact rfl) | (apply ke_rg; exact rfl; exact rfl) | (refine ke_cv ?_ ?_ ?_ ?_; exact rfl; kernel_rfl) | (apply ke_fl; exact rfl) | (apply ke_al; exact rfl; exact rfl)) | ((with_reducible refine freshIs_new ?_); kernel_rfl) | (simp only [B, xB, F, reduceLT, reduceLeDiff, reduceEqDiff, reduceAdd, reduceMul, reduceSub, ↓reduceIte, eq_self, fs]))); exact hq) : p := f fs hq
abbrev RQ := Rq × AV × AV × AV
def RQcs (x : RQ) : List AV := x.1.cs x.2.1 x.2.2.1 x.2.2.2
theorem RQlen (x : RQ) : (RQcs x).length = 8 := rfl
structure RQok (h : H) (x : RQ) : Prop where
 sc : SliceAt h x.2.1 x.1.cmps.length (x.1.cmps.flatMap Cmp.cs)
 st : SliceAt h x.2.2.1 x.1.th.length (x.1.th.flatMap Op.cs)
 se : SliceAt h x.2.2.2 x.1.el.length (x.1.el.flatMap Op.cs)
theorem RQ.at {h : H} {b o n : Nat} {cap : Cap} {l : List RQ} (sl : SliceAt h (.slice b o n cap) n (l.flatMap RQcs)) {i : Nat} {x : RQ} (hx : l[i]? = some x) : cellAt h b (o + i * 8) = some (.int .i64 x.1.kind) ∧ cellAt h b (o + (i * 8 + 1)) = some (.int .u64 (.ofNat x.1.client)) ∧ cellAt h b (o + (i * 8 + 2)) = some (.int .u64 (.ofNat x.1.num)) ∧ cellAt h b (o + (i * 8 + 3)) = some (.bool x.1.serial) ∧ cellAt h b (o + (i * 8 + 4)) = some x.2.1 ∧ cellAt h b (o + (i * 8 + 5)) = some x.2.2.1 ∧ cellAt h b (o + (i * 8 + 6)) = some x.2.2.2 ∧ cellAt h b (o + (i * 8 + 7)) = some (.int .u64 (.ofNat x.1.rev)) := by
 have g : ∀ k, k < 8 → cellAt h b (o + (i * 8 + k)) = (RQcs x)[k]? := fun k hk => cells_at RQlen sl hx hk
 exact ⟨g 0 (by omega), g 1 (by omega), g 2 (by omega), g 3 (by omega), g 4 (by omega), g 5 (by omega), g 6 (by omega), g 7 (by omega)⟩
theorem u22a : P.underlying 22 = some (.slice 31):= by kernel_rfl
structure LwH (h0 h : H) (bm bm2 b : Nat) (n : Nat) (L : List Rec) (rev comp : Nat) (v v2 : AV) : Prop where
 md : MdAt h bm L rev comp v
 gv : Grows 8 0 h v L.length (L.flatMap Rec.cs)
 s : SrAt h b L rev comp v2 [] .nilslice 0
 km : cellAt h bm2 0 = some (.ptr b 0)
 l0 : h0.nx ≤ bm
 l2 : h0.nx ≤ bm2
 lb : h0.nx ≤ b
 lm2 : bm2 < h.nx
 n1 : bm ≠ bm2
 n2 : bm ≠ b
 n3 : bm2 ≠ b
 nv : ∀ c, blkOf v = some c → c ≠ bm ∧ c ≠ b
 nv2 : ∀ c, blkOf v2 = some c → c ≠ bm ∧ c ≠ b
 ok : MOk n rev L
 oo : Og h0 h []
theorem LwH.keep {h0 h h' : H} {bm bm2 b n rev comp : Nat} {L : List Rec} {v v2 : AV} (w : LwH h0 h bm bm2 b n L rev comp v v2) (o : Og h h' []) : LwH h0 h' bm bm2 b n L rev comp v v2 :=
 ⟨w.md.keep o.1.1 (o.1.2 bm w.md.lt (by simp)) (fun c e => o.1.2 c (w.gv.base e).2 (by simp)), w.gv.of_get o.1.1 (fun c e => o.1.2 c (w.gv.base e).2 (by simp)), w.s.keep o, kc w.km o w.lm2 (by simp), w.l0, w.l2, w.lb, Nat.lt_of_lt_of_le w.lm2 o.1.1, w.n1, w.n2, w.n3, w.nv, w.nv2, w.ok, w.oo.t o⟩
structure LwI (h0 : H) (va : AV) (l : List RQ) (bm bm2 b : Nat) (m : Nat) (ds : List Nat) (tm : T AV) (h : H) (i : Nat) (L : List Rec) (rev comp : Nat) (v v2 : AV) : Prop where
 ds : ds = []
 nn : m = 40 - i
 ii : i ≤ l.length
 i40 : i ≤ 40
 t0 : tm.get 0 = some va
 t3 : tm.get 3 = some (.ptr bm 0)
 t4 : tm.get 4 = some (.ptr bm2 0)
 t5 : tm.get 5 = some (.int .i64 (.ofNat i))
 rv : rev ≤ i + 1
 hh : LwH h0 h bm bm2 b (6 * i) L rev comp v v2
theorem mok0 : MOk 0 1 [] := ⟨⟨fun r h => (by cases h), Nat.le_refl _, Nat.le_refl _⟩, fun x h => (by cases h)⟩
theorem RowOk.ne {h h' : H} {rw_ : AV} {xs : List RV} (k : RowOk h rw_ xs) {S : List Nat} (o : Og h h' S) (b1 : ∀ c, blkOf rw_ = some c → c ∉ S) (b2 : ∀ x, x ∈ xs → (∀ c, blkOf x.2.1 = some c → c ∉ S) ∧ (∀ c, blkOf x.2.2 = some c → c ∉ S)) : RowOk h' rw_ xs :=
 ⟨k.gr.move o.1.1 (fun c e => o.1.2 c (sl_lt k.gr c e) (b1 c e)), fun x hx => ⟨(k.ok x hx).1.move o.1.1 (fun c e => o.1.2 c (sl_lt (k.ok x hx).1 c e) ((b2 x hx).1 c e)), (k.ok x hx).2.move o.1.1 (fun c e => o.1.2 c (sl_lt (k.ok x hx).2 c e) ((b2 x hx).2 c e))⟩⟩
set_option maxHeartbeats 8000000 in
theorem lawC (h0 : H) (va : AV) (l : List RQ) (sl : SliceAt h0 va l.length (l.flatMap RQcs)) (hok : ∀ x, x ∈ l → RQok h0 x) : codeW P 3 41 none (bodyC Try.f3) [] (T.fill .e 0 [va]) h0 (retK P Try.f3 fun v _ => v = .bool true) := by
 have hlen := sl.len (P := P) u22a
 have vo := sl_one sl
 refine codeW_root ?_
 refine rN0 ?_
 refine ((newC h0).call P).mono P ?_
 rintro _ h1 ⟨rfl, o1, md1, x1⟩
 refine rN0 ?_
 refine ((rNewC h1).call P).mono P ?_
 rintro _ h2 ⟨bm2, b, rfl, lm, lb, lm2, n3, km, s2, o2⟩
 have x2 := o2.1.1
 refine rN0 ?_
 refine st_loop (fun m ds tm h => ∃ i L rev comp v v2, LwI h0 va l h0.nx bm2 b m ds tm h i L rev comp v v2) 40 rfl ⟨0, [], 1, 0, .nilslice, .nilslice, rfl, rfl, Nat.zero_le _, by omega, by exact sT, by exact sT, by exact sT, by exact sT, Nat.le_refl _, md1.keep x2 (o2.1.2 _ (by omega) (by simp)) (fun c e => by cases e), .none, s2, km, Nat.le_refl _, by omega, by omega, lm2, by omega, by omega, n3, (fun c e => by cases e), (fun c e => by cases e), mok0, o1.t o2⟩ (fun m ds tm h hI => ?_)
 obtain ⟨i, L, rev, comp, v, v2, rfl, rfl, ii, i40, t0, t3, t4, t5, rv, hh⟩ := hI
 have x0 := hh.oo.1.1
 have hlm := hh.md.lt
 have hlb0 := hh.s.lt
 have hl2 := hh.lm2
 by_cases hi : i < l.length
 ·have di : decide (i < l.length) = true := decide_eq_true hi
  have lt1 : (i < l.length) = True:= by simp [hi]
  by_cases h40 : i < 40
  ·have d40 : decide (i < 40) = true := decide_eq_true h40
   obtain ⟨⟨r, vc, vt, ve⟩, hx⟩ : ∃ x, l[i]? = some x := ⟨_, List.getElem?_eq_getElem hi⟩
   have slh := SliceAt.only hh.oo.1 sl (fun _ _ => by simp)
   obtain ⟨bv, ov, cv, rfl, hbv, -⟩ := slh.place (by omega)
   obtain ⟨q0, q1, q2, q3, q4, q5, q6, q7⟩ := RQ.at slh hx
   simp only at q0 q1 q2 q3 q4 q5 q6 q7
   obtain ⟨sc, st, se⟩ := hok _ (List.mem_of_getElem? hx)
   simp only at sc st se
   have sch := SliceAt.only hh.oo.1 sc (fun _ _ => by simp)
   have sth := SliceAt.only hh.oo.1 st (fun _ _ => by simp)
   have seh := SliceAt.only hh.oo.1 se (fun _ _ => by simp)
   have w1 : wrapF .i64 (Int.ofNat i + Int.ofNat 1) = Int.ofNat (i + 1) := i64_add (by omega)
   have hcut := cutC h r vc vt ve sch sth seh
   unfold Rq.cs at hcut
   refine rN ?_ (V t0<|V t3<|V t4<|V t5<|V hlen<|V vo<|V di<|V lt1<|V d40<|V q0<|V q1<|V q2<|V q3<|V q4<|V q5<|V q6<|q7)
   refine (hcut.call P).mono P ?_
   rintro _ h3 ⟨o3, wc, wt, we, rfl, ra3, bc, bt, be⟩
   have oc := sl_one ra3.sc
   have ot := sl_one ra3.st
   have oe := sl_one ra3.se
   have x3 := o3.1.1
   obtain ⟨h4, h4e⟩ : ∃ h4, h4 = (h3.newCells 31 [.int .i64 (.ofNat 0), .int .u64 (.ofNat 0), .int .u64 (.ofNat 0), .bool false, .nilslice, .nilslice, .nilslice, .int .u64 (.ofNat 0)]).sts h3.nx 0 ((cutR r).cs wc wt we) := ⟨_, rfl⟩
   have o4 : Og h3 h4 []:= by rw [h4e]; exact ((Og.refl _ _).new _ _).sts (.inr (Nat.le_refl _))
   have x4 : h4.nx = h3.nx + 1:= by rw [h4e, nx_sts, nx_new]
   have Y4 : CellsAt h4 h3.nx 0 ((cutR r).cs wc wt we):= by rw [h4e]; exact CellsAt.box _ _ _ _
   obtain ⟨y0, y1, y2, y3, y4, y5, y6, y7⟩ := Y4.u8
   have H4 := hh.keep (o3.t o4)
   have ra4 := ra3.keep o4
   have hB : ∀ tk j, j ≤ (brV (cutR r) tk).length → Short (opsS rev L ((brV (cutR r) tk).take j)).2 ∧ (opsS rev L ((brV (cutR r) tk).take j)).2.length ≤ 200000 := fun tk j hj => hh.ok.hB (by omega) r tk j hj
   have hzL : L.length ≤ 200000:= by have := hh.ok.sz.ln; omega
   obtain ⟨a, hA⟩ : ∃ a, a = applyS rev comp L (cutR r) := ⟨_, rfl⟩
   obtain ⟨aok, arev⟩ := apply_ok (comp := comp) hh.ok (by omega) r
   obtain ⟨ars, arr⟩ := apply_rs (comp := comp) hh.ok (by omega) r
   have hap := applyC h4 h0.nx L rev comp v H4.md H4.gv (fun c e => (H4.nv c e).1) (cutR r) wc wt we ra4 hh.ok.mn (by omega) hh.ok.sz.sh hzL hB
   rw [← hA] at hap aok arev ars arr
   unfold Rq.cs at hap h4e
   refine rO3MoYx ?_ (V oc<|V ot<|V oe<|V h4e.symm<|V t3<|V t4<|V y0<|V y1<|V y2<|V y3<|V y4<|V y5<|V y6<|y7)
   refine (hap.call P).mono P ?_
   rintro _ h5 ⟨xs, rx, v1, hv, hxs, kx, md5, gv5, oo5, nv5, vb5, rb5, xb5⟩
   unfold ansC at hv
   subst hv
   have x5 := oo5.1.1
   have rxo := sl_one kx.gr
   have b1 := hh.l0
   have b2 := hh.l2
   have b3 := hh.lb
   have Y5 := gC Y4 oo5 (by omega) (by simp; omega)
   obtain ⟨z0, z1, z2, z3, z4, z5, z6, z7⟩ := Y5.u8
   have s5 : SrAt h5 b L rev comp v2 [] .nilslice 0 := H4.s.far (d := h0.nx) x5 (fun c hc hn => oo5.1.2 c hc (by simp [hn])) (fun e => hh.n2 e.symm) (fun c e => (hh.nv2 c e).1) (fun c e => by cases e)
   have km5 := kc H4.km oo5 H4.lm2 (by simp; exact fun e => hh.n1 e.symm)
   have ra5 : RqAt h5 (cutR r) wc wt we := ⟨ra4.sc.move x5 (fun c e => oo5.1.2 c (sl_lt ra4.sc c e) (by have := bc c e; simp; omega)), ra4.st.move x5 (fun c e => oo5.1.2 c (sl_lt ra4.st c e) (by have := bt c e; simp; omega)), ra4.se.move x5 (fun c e => oo5.1.2 c (sl_lt ra4.se c e) (by have := be c e; simp; omega)), ra4.zc, ra4.zt, ra4.ze⟩
   have hlb := H4.s.lt
   have hrp := rApplyC h5 bm2 b L rev comp v2 s5 km5 (Nat.lt_of_lt_of_le H4.lm2 x5) hh.n3 (cutR r) wc wt we ra5 ⟨fun e => by have := bc _ e; omega, fun e => by have := bt _ e; omega, fun e => by have := be _ e; omega⟩ hh.ok.mn (by omega) hh.ok.sz.sh hzL (fun tk => tw_eq _) hB
   rw [← hA] at hrp
   unfold Rq.cs at hrp
   refine rO3MoYx ?_ (V oc<|V ot<|V oe<|V rxo<|V t3<|V t4<|V z0<|V z1<|V z2<|V z3<|V z4<|V z5<|V z6<|z7)
   refine (hrp.call P).mono P ?_
   rintro _ h6 ⟨ys, ry, v3, hv, hys, ky, s6, oo6, vb6⟩
   unfold ansC at hv
   subst hv
   have x6 := oo6.1.1
   have ryo := sl_one ky.gr
   have kx6 := kx.ne oo6 (fun c e => by have := rb5 c e; simp; omega) (fun x hx => ⟨fun c e => by have := (xb5 x hx).1 c e; simp; omega, fun c e => by have := (xb5 x hx).2 c e; simp; omega⟩)
   have Y6 := gC Y5 oo6 (by omega) (by simp; omega)
   obtain ⟨p0, p1, p2, p3, p4, p5, p6, p7⟩ := Y6.u8
   have hsm := sameC h6 a.err a.rev a.comp a.tk a.rs xs ys rx ry hxs hys kx6 ky ars arr
   unfold ansC at hsm
   refine rO3MoYx ?_ (V oc<|V ot<|V oe<|V rxo<|V ryo<|V t3<|V t4<|V p0<|V p1<|V p2<|V p3<|V p4<|V p5<|V p6<|p7)
   refine (hsm.call P).mono P ?_
   rintro _ h7 ⟨rfl, o7⟩
   have x7 := o7.1.1
   have md6 : MdAt h6 h0.nx (L ++ a.R) a.rev a.comp v1 := md5.keep x6 (oo6.1.2 h0.nx md5.lt (by simp; exact hh.n2)) (fun c e => oo6.1.2 c (gv5.base e).2 (by
    simp
    rcases vb5 c e with q | q
    ·exact (hh.nv c q).2
    ·omega))
   have gv6 : Grows 8 0 h6 v1 _ _ := gv5.of_get x6 (fun c e => oo6.1.2 c (gv5.base e).2 (by
    simp
    rcases vb5 c e with q | q
    ·exact (hh.nv c q).2
    ·omega))
   have km6 := kc km5 oo6 (by have := H4.lm2; omega) (by simp; exact hh.n3)
   have H6 : LwH h0 h6 h0.nx bm2 b (6 * i + 6) (L ++ a.R) a.rev a.comp v1 v3 :=
    ⟨md6, gv6, s6, km6, hh.l0, hh.l2, hh.lb, by have := H4.lm2; omega, hh.n1, hh.n2, hh.n3, fun c e => ⟨nv5 c e, by
     rcases vb5 c e with q | q
     ·exact (hh.nv c q).2
     ·omega⟩, fun c e => by
     rcases vb6 c e with q | q
     ·exact hh.nv2 c q
     ·omega, aok, ⟨⟨by omega, fun c hc _ => by rw [oo6.1.2 c (by omega) (by simp; omega), oo5.1.2 c (by omega) (by simp; omega)]; exact H4.oo.1.2 c hc (by simp)⟩, oo6.2.trans (oo5.2.trans H4.oo.2)⟩⟩
   have H7 := H6.keep o7
   have Y7 := gC Y6 o7 (by omega) (by simp)
   obtain ⟨s0, s1, s2', s3, s4, s5', s6', s7⟩ := Y7.u8
   refine rO3MoYx ?_ (V t3<|V t4<|V oc<|V ot<|V oe<|V s0<|V s1<|V s2'<|V s3<|V s4<|V s5'<|V s6'<|V s7<|@Bool.not_true)
   refine ((sameMC h7 h0.nx bm2 b (L ++ a.R) a.rev a.comp v1 v3 H7.md H7.s H7.km H7.lm2 (by have := aok.sz.ln; omega)).call P).mono P ?_
   rintro _ h8 ⟨rfl, o8⟩
   have Y8 := gC Y7 o8 (by omega) (by simp)
   obtain ⟨u0, u1, u2, u3, u4, u5, u6, u7⟩ := Y8.u8
   refine rO3MoYx ?_ (V t3<|V t4<|V oc<|V ot<|V oe<|V u0<|V u1<|V u2<|V u3<|V u4<|V u5<|V u6<|V u7<|V @Bool.not_true<|V t5<|w1)
   exact ⟨40 - (i + 1), by omega, i + 1, L ++ a.R, a.rev, a.comp, v1, v3, rfl, rfl, by omega, by omega, by exact sT, by exact sT, by exact sT, by exact sT, by omega, by rw [show 6 * (i + 1) = 6 * i + 6 by omega]; exact H7.keep o8⟩
  ·have d40 : decide (i < 40) = false := decide_eq_false h40
   refine rN ?_ (V t0<|V t3<|V t4<|V t5<|V hlen<|V vo<|V di<|d40)
   refine (worksC h).mono P ?_
   rintro _ h3 ⟨rfl, o3⟩
   repeat' (first | ((with_reducible refine st1 ?_); (conv => whnf); (with_reducible refine ⟨?_⟩)) | ((with_reducible refine retW_intro rfl ?_); (conv => arg 2; whnf)) | ((with_reducible first | refine iB ?_ ?_ | refine gWt ?_ ?_ | refine gWf ?_ ?_) <;> intro hb <;> (try simp only [hb])) | (simp only [B, xB, F, reduceLT, reduceLeDiff, reduceEqDiff, reduceAdd, reduceMul, reduceSub, ↓reduceIte, eq_self]))
 ·have di : decide (i < l.length) = false := decide_eq_false hi
  refine rN ?_ (V t0<|V t3<|V t4<|V t5<|V hlen<|V vo<|di)
  refine (worksC h).mono P ?_
  rintro _ h3 ⟨rfl, o3⟩
  repeat' (first | ((with_reducible refine st1 ?_); (conv => whnf); (with_reducible refine ⟨?_⟩)) | ((with_reducible refine retW_intro rfl ?_); (conv => arg 2; whnf)) | ((with_reducible first | refine iB ?_ ?_ | refine gWt ?_ ?_ | refine gWf ?_ ?_) <;> intro hb <;> (try simp only [hb])) | (simp only [B, xB, F, reduceLT, reduceLeDiff, reduceEqDiff, reduceAdd, reduceMul, reduceSub, ↓reduceIte, eq_self]))
end
end Go.Proofs.Ytnedigoajoflaaa.M

namespace Go.AX
noncomputable section
open Go Go.RowKit
def absV2 (n : Nat) : Value → Option AV
 | .slice (some _) 0 _ => some .slice0
 | v => absV n v
theorem absV2_rel {n : Nat} {v : Value} {a : AV} (h : absV2 n v = some a) : VR (absPhi n) a v ∧ a.one = true := by
 unfold absV2 at h
 split at h
 ·cases h; exact ⟨by simp, rfl⟩
 ·exact absV_rel h
def absObj2 (n : Nat) : Obj → Option AObj
 | .cells c _ _ => some (.cells c.size (fillO .e 0 (c.toList.map (absV2 n))) ⟨0, 0⟩ true)
 | _ => none
def absH2 (w : World) : H := ⟨fillO .e 0 (w.heap.toList.map (absObj2 w.heap.size)), w.heap.size, 0⟩
theorem absH2_get (w : World) (b : Nat) : (absH2 w).t.get b = (w.heap[b]?).bind (absObj2 w.heap.size) := by
 unfold absH2
 simp only [fillO_get0, List.getElem?_map, Array.getElem?_toList]
 cases w.heap[b]? <;> rfl
theorem absH2_rel (w : World) : HR ⟨w.heap.size, fun _ => none⟩ (absPhi w.heap.size) (absH2 w) w := by
 have hlt : ∀ {b : Nat} {o : AObj}, (absH2 w).t.get b = some o → b < w.heap.size := fun {b o} hb => by
  rw [absH2_get] at hb
  cases hx : w.heap[b]? with
  | none => rw [hx] at hb; cases hb
  | some x => exact (Array.getElem?_eq_some_iff.1 hx).1
 refine ⟨fun b o hb _ => ?_, fun b o b' o' L L' hb hb' h1 h2 e => ?_, fun b hb => ?_, fun b hb => absurd rfl hb, fun g hg => absurd hg (Nat.not_lt_zero _)⟩
 ·have hl := hlt hb
  refine ⟨⟨b, 0, 0⟩, by unfold absPhi; rw [if_pos hl], ?_⟩
  rw [absH2_get] at hb
  cases hx : w.heap[b]? with
  | none => rw [hx] at hb; cases hb
  | some x =>
   rw [hx] at hb
   cases x with
   | cells c t frz =>
    simp only [Option.bind_some, absObj2] at hb
    cases hb
    refine ⟨c, t, frz, hx, by simp, fun i v hv => ?_, (fun h => by cases h), (fun h => absurd rfl h), (fun _ => rfl), (fun h => absurd rfl h), (fun _ h => by cases h)⟩
    rw [fillO_get0, List.getElem?_map, Array.getElem?_toList] at hv
    cases hc : c[i]? with
    | none => rw [hc] at hv; cases hv
    | some cv =>
     rw [hc] at hv
     have hv' : absV2 w.heap.size cv = some v := hv
     obtain ⟨h1, h2⟩ := absV2_rel hv'
     exact ⟨(Array.getElem?_eq_some_iff.1 hc).1, h2, cv, by rw [Nat.zero_add]; exact hc, h1⟩
   | _ => cases hb
 ·unfold absPhi at h1 h2
  rw [if_pos (hlt hb)] at h1
  rw [if_pos (hlt hb')] at h2
  cases h1; cases h2; exact e
 ·unfold absPhi; rw [if_neg (by exact Nat.not_lt.2 hb)]
theorem absH2_cell {w : World} {b o : Nat} {v : Value} {a : AV} (hc : w.cell? ⟨b, o, none⟩ = some v) (ha : absV2 w.heap.size v = some a) : cellAt (absH2 w) b o = some a := by
 unfold World.cell? at hc
 unfold cellAt
 rw [absH2_get]
 simp only at hc
 cases hx : w.heap[b]? with
 | none => rw [hx] at hc; cases hc
 | some x =>
  rw [hx] at hc
  cases x with
  | cells c t f =>
   simp only [Option.bind_some, absObj2, fillO_get0, List.getElem?_map, Array.getElem?_toList]
   have : c[o]? = some v:= by simpa using hc
   rw [this]; exact ha
  | _ => simp at hc
theorem rows_in {α : Type} {P : Program} {K : Type} {enc : TypeId × Value → K} {w : World} {t e : TypeId} {size : Nat} (ht : P.underlying t = some (.slice e)) (hc : P.cellsOf e = size) (hs : 0 < size) (f : α → List (Value × AV)) (ok : α → Prop) (hab : ∀ y p, ok y → p ∈ f y → absV2 w.heap.size p.1 = some p.2)
  (hdec : ∀ (n : Nat) (cs : List Value) (x : DataW K × List MemPlace), DataW.trod enc P w 0 (fun _ => true) true n e cs = some x → ∃ a, ok a ∧ cs = (f a).map (·.1))
  {fuel : Nat} {cs : List Value} {x : DataW K × List MemPlace} (hf : DataW.trod enc P w 0 (fun _ => true) true fuel t cs = some x) :
  ∃ (cv : Value) (av : AV) (l : List α), cs = [cv] ∧ absV2 w.heap.size cv = some av ∧ SliceAt (absH2 w) av l.length (l.flatMap fun a => (f a).map (·.2)) ∧ (∀ a, a ∈ l → ok a) ∧ l.length ≤ maxLen ∧ ∀ a, a ∈ l → (f a).length = size := by
 rcases Go.Deep.open_slice ht hf with ⟨rfl, _⟩ | ⟨a, len0, cap0, m, n, D, Pl, rfl, _, h2, h2m, hm, _, hx⟩
 ·exact ⟨_, .nilslice, [], rfl, rfl, .none, (fun z hz => absurd hz List.not_mem_nil), by simp, fun z hz => absurd hz List.not_mem_nil⟩
 ·simp only [if_true] at hm
  have hel : ∀ i, i < len0 → ∃ y, ok y ∧ w.cells? 0 (a.add (i * size)) size = some ((f y).map (·.1)) := fun i hi => by
   obtain ⟨cs', q1, q2⟩ := hx i (by omega)
   obtain ⟨y, hy, rfl⟩ := hdec _ _ _ q2
   rw [hc] at q1
   exact ⟨y, hy, q1⟩
  obtain ⟨l, hll, hl⟩ := choose_list (p := fun i y => ok y ∧ w.cells? 0 (a.add (i * size)) size = some ((f y).map (·.1))) len0 hel
  have hok : ∀ y, y ∈ l → ok y := fun y hy => by
   obtain ⟨i, hi⟩ := List.mem_iff_getElem?.1 hy
   exact (hl i y hi).1
  have hsz : ∀ y, y ∈ l → (f y).length = size := fun y hy => by
   obtain ⟨i, hi⟩ := List.mem_iff_getElem?.1 hy
   obtain ⟨_, q, _⟩ := World.cells?_some (hl i y hi).2
   simpa using q
  by_cases hz : len0 = 0
  ·obtain rfl : l = [] := List.length_eq_zero_iff.1 (by omega)
   subst hz
   exact ⟨_, .slice0, [], rfl, rfl, .zero, (fun z hz => absurd hz List.not_mem_nil), by simp, fun z hz => absurd hz List.not_mem_nil⟩
  ·have hcell : ∀ i y j, l[i]? = some y → j < size → w.cell? (a.add (i * size + j)) = ((f y).map (·.1))[j]? := fun i y j hi hj => by
    obtain ⟨_, _, q⟩ := World.cells?_some (hl i y hi).2
    have := q j hj
    have e : (a.add (i * size)).add j = a.add (i * size + j) := by
     unfold Addr.add
     by_cases c1 : i * size = 0
     ·simp [c1]
     ·by_cases c2 : j = 0
      ·simp [c2]
      ·simp [c1, c2, Nat.add_assoc]
    rw [e] at this; exact this
   obtain ⟨y0, hy0⟩ : ∃ y, l[0]? = some y := ⟨_, List.getElem?_eq_getElem (by omega)⟩
   have h0 := hcell 0 y0 0 hy0 hs
   have hy0l := hsz y0 (List.mem_of_getElem? hy0)
   rw [List.getElem?_map, List.getElem?_eq_getElem (by omega)] at h0
   have ha : a.spot = none ∧ a.block < w.heap.size := by
    have hb := World.block_lt_of_cell? w _ h0
    have : (a.add (0 * size + 0)) = a:= by simp [Addr.add]
    rw [this] at h0 hb
    refine ⟨?_, hb⟩
    unfold World.cell? at h0
    cases hx : w.heap[a.block]? with
    | none => rw [hx] at h0; cases h0
    | some x =>
     rw [hx] at h0
     cases x with
     | cells c t f =>
      simp only at h0
      cases hs : a.spot with
      | none => rfl
      | some q => rw [hs] at h0; simp at h0
     | _ => cases h0
   obtain ⟨B, o, sp⟩ := a
   obtain ⟨rfl, hB⟩ := ha
   simp only at hB
   refine ⟨_, .slice B o len0 (.exact cap0), l, rfl, ?_, ?_, hok, by omega, hsz⟩
   ·obtain ⟨k, rfl⟩ : ∃ k, len0 = k + 1 := ⟨len0 - 1, by omega⟩
    have e : absV2 w.heap.size (.slice (some ⟨B, o, none⟩) (k + 1) cap0) = absV w.heap.size (.slice (some ⟨B, o, none⟩) (k + 1) cap0) := rfl
    rw [e]
    unfold absV
    exact if_pos hB
   ·rw [hll]
    have hfl : ∀ y, y ∈ l → ((f y).map (·.2)).length = size := fun y hy => by rw [List.length_map]; exact hsz y hy
    refine .cell B o len0 _ _ hB (fun i hi => ?_)
    rw [flat_len' _ size l hfl] at hi
    obtain ⟨q, r, rfl, hr⟩ : ∃ q r, i = q * size + r ∧ r < size := ⟨i / size, i % size, by rw [Nat.mul_comm]; exact (Nat.div_add_mod i size).symm, Nat.mod_lt _ hs⟩
    have hq : q < l.length := by
     rcases Nat.lt_or_ge q l.length with e | e
     ·exact e
     ·have := Nat.mul_le_mul_right size e; omega
    obtain ⟨y, hy⟩ : ∃ y, l[q]? = some y := ⟨_, List.getElem?_eq_getElem hq⟩
    have hym := List.mem_of_getElem? hy
    have hc2 := hcell q y r hy hr
    have hyl := hsz y hym
    have e1 : (⟨B, o, none⟩ : Addr).add (q * size + r) = ⟨B, o + (q * size + r), none⟩ := by
     unfold Addr.add
     split
     ·rename_i q1; rw [q1]; rfl
     ·rfl
    rw [e1, List.getElem?_map, List.getElem?_eq_getElem (by omega)] at hc2
    rw [flat_at' _ size l hfl q r y hy hr, absH2_cell hc2 (hab y _ (hok y hym) (List.getElem_mem (by omega))), List.getElem?_map, List.getElem?_eq_getElem (by omega)]; rfl
theorem rows_top {α : Type} {P : Program} {K : Type} {enc : TypeId × Value → K} {w : World} {t e : TypeId} {size : Nat} (ht : P.underlying t = some (.slice e)) (hc : P.cellsOf e = size) (hs : 0 < size) (f : α → List (Value × AV)) (ok : α → Prop) (hab : ∀ y p, ok y → p ∈ f y → absV2 w.heap.size p.1 = some p.2)
  (hdec : ∀ (n : Nat) (cs : List Value) (x : DataW K × List MemPlace), DataW.trod enc P w 0 (fun _ => true) true n e cs = some x → ∃ a, ok a ∧ cs = (f a).map (·.1))
  {r : Go.Reach} {b0 : Nat} {v : Value} (hval : Value.okWide P w r b0 t v) {d : DataW K} {ps : List MemPlace} (hd : DataW.Trod enc P w 0 (fun _ => true) true t v d ps) :
  ∃ (av : AV) (l : List α), VR (absPhi w.heap.size) av v ∧ SliceAt (absH2 w) av l.length (l.flatMap fun a => (f a).map (·.2)) ∧ (∀ a, a ∈ l → ok a) ∧ l.length ≤ maxLen ∧ ∀ a, a ∈ l → (f a).length = size := by
 obtain ⟨fuel, hf⟩ := hd
 obtain ⟨a0, len0, cap0, rfl⟩ := WideShapes.okWide_slice ht hval
 obtain ⟨cv, av, l, h1, h2, h3, h4⟩ := rows_in ht hc hs f ok hab hdec hf
 simp [Value.cells] at h1
 subst h1
 exact ⟨av, l, (absV2_rel h2).1, h3, h4⟩
end
end Go.AX

namespace Go.Proofs.Ytnedigoajoflaaa.M
open Go Go.AX
noncomputable section
set_option maxRecDepth 100000
theorem u68t : P.underlying 68 = some (.struct (fieldsOf P 68)):= by kernel_rfl
theorem u80t : P.underlying 80 = some (.struct (fieldsOf P 80)):= by kernel_rfl
theorem u31t : P.underlying 31 = some (.struct (fieldsOf P 31)):= by kernel_rfl
theorem u27t : P.underlying 27 = some (.int .u64):= by kernel_rfl
theorem u3t : P.underlying 3 = some (.int .i64):= by kernel_rfl
theorem u4t : P.underlying 4 = some .bool:= by kernel_rfl
theorem c3t : P.cellsOf 3 = 1:= by kernel_rfl
theorem c4t : P.cellsOf 4 = 1:= by kernel_rfl
theorem c9t : P.cellsOf 9 = 1:= by kernel_rfl
theorem c27t : P.cellsOf 27 = 1:= by kernel_rfl
structure CmpB where
 key : ByteArray
 what : Int
 how : Int
 n : Nat
 val : ByteArray
def CmpB.n' (x : CmpB) : Cmp := ⟨bytesOf x.key, x.what, x.how, x.n, bytesOf x.val⟩
def CmpB.cs (x : CmpB) : List (Value × AV) := [(.string x.key, .str (bytesOf x.key)), (.int .i64 x.what, .int .i64 x.what), (.int .i64 x.how, .int .i64 x.how), (.int .u64 (.ofNat x.n), .int .u64 (.ofNat x.n)), (.string x.val, .str (bytesOf x.val))]
theorem CmpB.cs2 (x : CmpB) : x.cs.map (·.2) = x.n'.cs := rfl
theorem CmpB.abs (n : Nat) (y : CmpB) (p : Value × AV) (h : p ∈ y.cs) : absV2 n p.1 = some p.2 := by
 unfold CmpB.cs at h
 simp only [List.mem_cons, List.mem_nil_iff, or_false] at h
 rcases h with rfl | rfl | rfl | rfl | rfl <;> rfl
theorem cmp_dec {K : Type} {enc : TypeId × Value → K} {w : World} {b : Nat} {sp : Nat → Bool} {hd : Bool} (n : Nat) (cs : List Value) (x : DataW K × List MemPlace) (h : DataW.trod enc P w b sp hd n 68 cs = some x) : ∃ a : CmpB, True ∧ cs = a.cs.map (·.1) := by
 obtain ⟨hl, n0, y0, h0⟩ := trod_field (i := 0) (ty := 9) (off := 0) u68t (by kernel_rfl) h
 obtain ⟨_, n1, y1, h1⟩ := trod_field (i := 1) (ty := 3) (off := 1) u68t (by kernel_rfl) h
 obtain ⟨_, n2, y2, h2⟩ := trod_field (i := 2) (ty := 3) (off := 2) u68t (by kernel_rfl) h
 obtain ⟨_, n3, y3, h3⟩ := trod_field (i := 3) (ty := 27) (off := 3) u68t (by kernel_rfl) h
 obtain ⟨_, n4, y4, h4⟩ := trod_field (i := 4) (ty := 9) (off := 4) u68t (by kernel_rfl) h
 rw [c9t] at h0 h4
 rw [c3t] at h1 h2
 rw [c27t] at h3
 rw [show P.cellsOf 68 = 5 by kernel_rfl] at hl
 obtain ⟨k, e0, _⟩ := DataW.trod_string u9s h0
 obtain ⟨wt, e1, _⟩ := DataW.trod_int u3t h1
 obtain ⟨hw, e2, _⟩ := DataW.trod_int u3t h2
 obtain ⟨m, e3, _⟩ := trod_nat (k := .u64) rfl u27t h3
 obtain ⟨v, e4, _⟩ := DataW.trod_string u9s h4
 match cs, hl with
 | [c0, c1, c2, c3, c4], _ =>
  simp at e0 e1 e2 e3 e4
  exact ⟨⟨k, wt, hw, m, v⟩, trivial, by rw [e0, e1, e2, e3, e4]; rfl⟩
structure OpB where
 kind : Int
 key : ByteArray
 fin : ByteArray
 val : ByteArray
 rev : Nat
 limit : Int
 count : Bool
 keys : Bool
 prev : Bool
def OpB.n' (x : OpB) : Op := ⟨x.kind, bytesOf x.key, bytesOf x.fin, bytesOf x.val, x.rev, x.limit, x.count, x.keys, x.prev⟩
def OpB.cs (x : OpB) : List (Value × AV) := [(.int .i64 x.kind, .int .i64 x.kind), (.string x.key, .str (bytesOf x.key)), (.string x.fin, .str (bytesOf x.fin)), (.string x.val, .str (bytesOf x.val)), (.int .u64 (.ofNat x.rev), .int .u64 (.ofNat x.rev)), (.int .i64 x.limit, .int .i64 x.limit), (.bool x.count, .bool x.count), (.bool x.keys, .bool x.keys), (.bool x.prev, .bool x.prev)]
theorem OpB.cs2 (x : OpB) : x.cs.map (·.2) = x.n'.cs := rfl
theorem OpB.abs (n : Nat) (y : OpB) (p : Value × AV) (h : p ∈ y.cs) : absV2 n p.1 = some p.2 := by
 unfold OpB.cs at h
 simp only [List.mem_cons, List.mem_nil_iff, or_false] at h
 rcases h with rfl | rfl | rfl | rfl | rfl | rfl | rfl | rfl | rfl <;> rfl
theorem op_dec {K : Type} {enc : TypeId × Value → K} {w : World} {b : Nat} {sp : Nat → Bool} {hd : Bool} (n : Nat) (cs : List Value) (x : DataW K × List MemPlace) (h : DataW.trod enc P w b sp hd n 80 cs = some x) : ∃ a : OpB, True ∧ cs = a.cs.map (·.1) := by
 obtain ⟨hl, n0, y0, h0⟩ := trod_field (i := 0) (ty := 3) (off := 0) u80t (by kernel_rfl) h
 obtain ⟨_, n1, y1, h1⟩ := trod_field (i := 1) (ty := 9) (off := 1) u80t (by kernel_rfl) h
 obtain ⟨_, n2, y2, h2⟩ := trod_field (i := 2) (ty := 9) (off := 2) u80t (by kernel_rfl) h
 obtain ⟨_, n3, y3, h3⟩ := trod_field (i := 3) (ty := 9) (off := 3) u80t (by kernel_rfl) h
 obtain ⟨_, n4, y4, h4⟩ := trod_field (i := 4) (ty := 27) (off := 4) u80t (by kernel_rfl) h
 obtain ⟨_, n5, y5, h5⟩ := trod_field (i := 5) (ty := 3) (off := 5) u80t (by kernel_rfl) h
 obtain ⟨_, n6, y6, h6⟩ := trod_field (i := 6) (ty := 4) (off := 6) u80t (by kernel_rfl) h
 obtain ⟨_, n7, y7, h7⟩ := trod_field (i := 7) (ty := 4) (off := 7) u80t (by kernel_rfl) h
 obtain ⟨_, n8, y8, h8⟩ := trod_field (i := 8) (ty := 4) (off := 8) u80t (by kernel_rfl) h
 rw [c9t] at h1 h2 h3
 rw [c3t] at h0 h5
 rw [c27t] at h4
 rw [c4t] at h6 h7 h8
 rw [show P.cellsOf 80 = 9 by kernel_rfl] at hl
 obtain ⟨k0, e0, _⟩ := DataW.trod_int u3t h0
 obtain ⟨k1, e1, _⟩ := DataW.trod_string u9s h1
 obtain ⟨k2, e2, _⟩ := DataW.trod_string u9s h2
 obtain ⟨k3, e3, _⟩ := DataW.trod_string u9s h3
 obtain ⟨k4, e4, _⟩ := trod_nat (k := .u64) rfl u27t h4
 obtain ⟨k5, e5, _⟩ := DataW.trod_int u3t h5
 obtain ⟨k6, e6, _⟩ := DataW.trod_bool u4t h6
 obtain ⟨k7, e7, _⟩ := DataW.trod_bool u4t h7
 obtain ⟨k8, e8, _⟩ := DataW.trod_bool u4t h8
 match cs, hl with
 | [c0, c1, c2, c3, c4, c5, c6, c7, c8], _ =>
  simp at e0 e1 e2 e3 e4 e5 e6 e7 e8
  exact ⟨⟨k0, k1, k2, k3, k4, k5, k6, k7, k8⟩, trivial, by rw [e0, e1, e2, e3, e4, e5, e6, e7, e8]; rfl⟩
structure RqB where
 kind : Int
 client : Nat
 num : Nat
 serial : Bool
 vc : Value × AV
 vt : Value × AV
 ve : Value × AV
 rev : Nat
 cmps : List Cmp
 th : List Op
 el : List Op
def RqB.n' (x : RqB) : RQ := (⟨x.kind, x.client, x.num, x.serial, x.cmps, x.th, x.el, x.rev⟩, x.vc.2, x.vt.2, x.ve.2)
def RqB.cs (x : RqB) : List (Value × AV) := [(.int .i64 x.kind, .int .i64 x.kind), (.int .u64 (.ofNat x.client), .int .u64 (.ofNat x.client)), (.int .u64 (.ofNat x.num), .int .u64 (.ofNat x.num)), (.bool x.serial, .bool x.serial), x.vc, x.vt, x.ve, (.int .u64 (.ofNat x.rev), .int .u64 (.ofNat x.rev))]
theorem RqB.cs2 (x : RqB) : x.cs.map (·.2) = RQcs x.n' := rfl
structure RqB.ok (w : World) (x : RqB) : Prop where
 r : RQok (absH2 w) x.n'
 c : absV2 w.heap.size x.vc.1 = some x.vc.2
 t : absV2 w.heap.size x.vt.1 = some x.vt.2
 e : absV2 w.heap.size x.ve.1 = some x.ve.2
theorem RqB.abs (w : World) (y : RqB) (p : Value × AV) (ok : y.ok w) (h : p ∈ y.cs) : absV2 w.heap.size p.1 = some p.2 := by
 unfold RqB.cs at h
 simp only [List.mem_cons, List.mem_nil_iff, or_false] at h
 rcases h with rfl | rfl | rfl | rfl | rfl | rfl | rfl | rfl
 ·rfl
 ·rfl
 ·rfl
 ·rfl
 ·exact ok.c
 ·exact ok.t
 ·exact ok.e
 ·rfl
theorem flatB {α β : Type} (f : α → List (Value × AV)) (g : β → List AV) (n : α → β) (h : ∀ x, (f x).map (·.2) = g (n x)) : ∀ l : List α, (l.flatMap fun a => (f a).map (·.2)) = (l.map n).flatMap g
 | [] => rfl
 | a :: l => by rw [List.flatMap_cons, List.map_cons, List.flatMap_cons, h a, flatB f g n h l]
theorem rq_dec {K : Type} {enc : TypeId × Value → K} {w : World} (n : Nat) (cs : List Value) (x : DataW K × List MemPlace) (h : DataW.trod enc P w 0 (fun _ => true) true n 31 cs = some x) : ∃ a : RqB, a.ok w ∧ cs = a.cs.map (·.1) := by
 obtain ⟨hl, n0, y0, h0⟩ := trod_field (i := 0) (ty := 3) (off := 0) u31t (by kernel_rfl) h
 obtain ⟨_, n1, y1, h1⟩ := trod_field (i := 1) (ty := 27) (off := 1) u31t (by kernel_rfl) h
 obtain ⟨_, n2, y2, h2⟩ := trod_field (i := 2) (ty := 27) (off := 2) u31t (by kernel_rfl) h
 obtain ⟨_, n3, y3, h3⟩ := trod_field (i := 3) (ty := 4) (off := 3) u31t (by kernel_rfl) h
 obtain ⟨_, n4, y4, h4⟩ := trod_field (i := 4) (ty := 28) (off := 4) u31t (by kernel_rfl) h
 obtain ⟨_, n5, y5, h5⟩ := trod_field (i := 5) (ty := 29) (off := 5) u31t (by kernel_rfl) h
 obtain ⟨_, n6, y6, h6⟩ := trod_field (i := 6) (ty := 29) (off := 6) u31t (by kernel_rfl) h
 obtain ⟨_, n7, y7, h7⟩ := trod_field (i := 7) (ty := 27) (off := 7) u31t (by kernel_rfl) h
 rw [c3t] at h0
 rw [c27t] at h1 h2 h7
 rw [c4t] at h3
 rw [show P.cellsOf 28 = 1 by kernel_rfl] at h4
 rw [show P.cellsOf 29 = 1 by kernel_rfl] at h5 h6
 rw [show P.cellsOf 31 = 8 by kernel_rfl] at hl
 obtain ⟨k0, e0, _⟩ := DataW.trod_int u3t h0
 obtain ⟨k1, e1, _⟩ := trod_nat (k := .u64) rfl u27t h1
 obtain ⟨k2, e2, _⟩ := trod_nat (k := .u64) rfl u27t h2
 obtain ⟨k3, e3, _⟩ := DataW.trod_bool u4t h3
 obtain ⟨c4, a4, l4, e4, q4, s4, _⟩ := rows_in (size := 5) u28a (by kernel_rfl) (by omega) CmpB.cs (fun _ => True) (fun y p _ h => CmpB.abs _ y p h) (fun n cs x h => cmp_dec n cs x h) h4
 obtain ⟨c5, a5, l5, e5, q5, s5, _⟩ := rows_in (size := 9) u29a (by kernel_rfl) (by omega) OpB.cs (fun _ => True) (fun y p _ h => OpB.abs _ y p h) (fun n cs x h => op_dec n cs x h) h5
 obtain ⟨c6, a6, l6, e6, q6, s6, _⟩ := rows_in (size := 9) u29a (by kernel_rfl) (by omega) OpB.cs (fun _ => True) (fun y p _ h => OpB.abs _ y p h) (fun n cs x h => op_dec n cs x h) h6
 obtain ⟨k7, e7, _⟩ := trod_nat (k := .u64) rfl u27t h7
 rw [flatB CmpB.cs Cmp.cs CmpB.n' CmpB.cs2] at s4
 rw [flatB OpB.cs Op.cs OpB.n' OpB.cs2] at s5 s6
 rw [← List.length_map (f := CmpB.n')] at s4
 rw [← List.length_map (f := OpB.n')] at s5 s6
 match cs, hl with
 | [d0, d1, d2, d3, d4, d5, d6, d7], _ =>
  simp at e0 e1 e2 e3 e4 e5 e6 e7
  exact ⟨⟨k0, k1, k2, k3, (c4, a4), (c5, a5), (c6, a6), k7, l4.map CmpB.n', l5.map OpB.n', l6.map OpB.n'⟩, ⟨⟨s4, s5, s6⟩, q4, q5, q6⟩, by rw [e0, e1, e2, e3, e4, e5, e6, e7]; rfl⟩
theorem rqs_arg {K : Type} {enc : TypeId × Value → K} {w : World} {r : Go.Reach} {b0 : Nat} {v : Value} (hval : Value.okWide P w r b0 22 v) {d : DataW K} {ps : List MemPlace} (hd : DataW.Trod enc P w 0 (fun _ => true) true 22 v d ps) :
  ∃ (av : AV) (l : List RQ), VR (absPhi w.heap.size) av v ∧ SliceAt (absH2 w) av l.length (l.flatMap RQcs) ∧ (∀ x, x ∈ l → RQok (absH2 w) x) ∧ l.length ≤ maxLen := by
 obtain ⟨av, l, h1, h2, h3, h4, _⟩ := rows_top (size := 8) u22a (by kernel_rfl) (by omega) RqB.cs (RqB.ok w) (fun y p ok h => RqB.abs w y p ok h) (fun n cs x h => rq_dec n cs x h) hval hd
 rw [flatB RqB.cs RQcs RqB.n' RqB.cs2, ← List.length_map (f := RqB.n')] at h2
 exact ⟨av, l.map RqB.n', h1, h2, (fun x hx => by obtain ⟨y, hy, rfl⟩ := List.mem_map.1 hx; exact (h3 y hy).r), by rw [List.length_map]; exact h4⟩
end
end Go.Proofs.Ytnedigoajoflaaa.M

namespace Go.Proofs.Ytnedigoajoflaaa.modelApplies
open Go.ChangeShapes Go.WideShapes Go.ChangeAt Go.RowKit
theorem own : ownKnob Try.prog.godebug = none:= by kernel_rfl
theorem laidOut : laidOutB Try.prog = true:= by kernel_rfl
theorem readable : ∀ t, t ∈ [22] → Try.prog.readableRec t = true ∧ t < Try.prog.types.size := by
 intro t ht
 simp only [List.mem_cons, List.mem_nil_iff, or_false] at ht
 rcases ht with rfl; exact ⟨by kernel_rfl, of_decide_eq_true (by kernel_rfl)⟩
set_option maxRecDepth 100000 in
theorem walk (W : World) (vl : AX.AV) (l : List M.RQ) (cl : Value) (hv : AX.VR (AX.absPhi W.heap.size) vl cl) (sl : AX.SliceAt (AX.absH2 W) vl l.length (l.flatMap M.RQcs)) (hl : ∀ x, x ∈ l → M.RQok (AX.absH2 W) x) :
  Calls Try.prog 3 #[cl] W fun e w' => e = .returned (.bool true) ∧ Below W.heap.size W w' := by
 have hw := M.lawC (AX.absH2 W) vl l sl hl
 refine (AX.calls_of_codeW (fn := Try.f3) (c := AX.bodyC Try.f3) Try.func3 rfl hw (AX.absH2_rel W) (Nat.le_refl _) (cargs := #[cl]) ⟨hv, trivial⟩).mono ?_
 rintro e1 w' ⟨N', φ', cv', v, h', _, rfl, hq, _, hv', _, hb⟩
 have hq : v = .bool true := hq
 subst hq
 rw [AX.VR_bool] at hv'; subst hv'
 exact ⟨rfl, hb⟩
set_option maxRecDepth 100000 in
theorem lifted (os : Os) (started : os.Started) (H : Type) (enc : TypeId × Value → H) :
  ReturnsInHanded {} Try.checked os 3 .any (Rows.modelAppliesSpec.pre6 enc Try.prog Try.f3 Rows.modelAppliesRow.domain false) (Rows.modelAppliesSpec.post enc Try.prog Try.f3 false true false false) := by
 refine returnsInHanded_of_change (C := Try.checked) own started (by kernel_rfl) Try.func3
  (ChangeSpec.witness6 (enc := enc) (C := Try.checked) false ⟨#[], #[.slice none 0 0], []⟩ 8 (by kernel_rfl) (by kernel_rfl) (by kernel_rfl) (by kernel_rfl)) ?_
 intro W base args ds gs before hval0 hW hcnd _
 have hW' := hW
 have hlt := hW.lt
 obtain ⟨p, q, hA0, hV, rfl, hfz, hnd⟩ := hW
 have hA : DataW.TrodAll enc Try.prog W 0 (fun _ => true) true Try.f3.params.toList args.toList ds p := hA0
 rw [Try.params3] at hA hval0
 have hA1 := hA
 obtain ⟨v0, vs0, d0, ds0, p0, q0, hargs, rfl, rfl, g0, r0⟩ := trodAll_cons hA
 obtain ⟨rfl, rfl, rfl⟩ := trodAll_nil r0
 obtain rfl : args = #[v0]:= by cases args; simp_all
 obtain ⟨rfl, rfl⟩ := trodVars_none hV
 obtain ⟨vl, l, hv, sl, hl, _⟩ := M.rqs_arg (hval0 0 22 v0 rfl rfl) g0
 simp only [List.append_nil] at hW' hlt
 refine (walk W vl l v0 hv sl hl).mono fun e1 M' ⟨he, hb⟩ => ?_
 subst he
 exact ⟨_, rfl, _, [], _, [], _, [], hW', trodAll_cons_mk (shut_bool Try.underlying4 _) trodAll_mk0, AX.trodAll_below laidOut hb readable hA1 (fun p hp => hlt p (by simpa using hp)) _ (fun p hp => decide_eq_true (hlt p (by simpa using hp))), rfl, hb.frame _, fun h => by cases h⟩
theorem over : Rows.modelAppliesRow.holds Try.pinned (OpenSpec.ofChange Rows.modelAppliesSpec) :=
 OpenClaim.holds_of_wide 3 Try.f3 rfl rfl rfl rfl rfl rfl rfl ⟨rfl, rfl, rfl, rfl, rfl⟩ rfl rfl rfl rfl rfl (by kernel_rfl) Try.func3 (by kernel_rfl)
  (of_decide_eq_true (by kernel_rfl)) (by unfold Func.isWrapper; first | (rw [if_pos (by decide +kernel)]; kernel_rfl) | (rw [if_neg (by decide +kernel)]; exact ⟨rfl, rfl⟩))
  (fun os started H enc _ => lifted os started H enc)
theorem proved : Rows.ModelAppliesSaid := over
#print axioms proved
end Go.Proofs.Ytnedigoajoflaaa.modelApplies


/-
  model: Clip; whether a comparison fails: walked.
-/
import Derived.Test.YtnedigoajoflaaaAxI
import Derived.Test.YtnedigoajoflaaaG1
set_option linter.unusedSimpArgs false
set_option linter.unusedVariables false
set_option linter.unusedSectionVars false
open Nat (reduceLT reduceLeDiff reduceEqDiff reduceAdd reduceMul reduceSub)
namespace Go.Proofs.Ytnedigoajoflaaa.M
open Go Go.AX
noncomputable section
set_option maxRecDepth 100000
theorem ex_sl_hm {tm : T AV} {h : H} (t : TypeId) (x a b : Operand) : execA P tm h (.slice t x none (some a) (some b)) = ob (evalA tm x) fun v => ob (evalA tm a) fun l => ob (evalA tm b) fun r => ob (sliceA P t v none (some l) (some r)) fun v => .val v h := by
 simp only [execA, evalO]
 cases evalA tm x with
 | none => cases evalA tm a <;> cases evalA tm b <;> rfl
 | some v => cases evalA tm a with
  | none => cases evalA tm b <;> rfl
  | some l => cases evalA tm b with
   | none => rfl
   | some r => show optV h (sliceA P t v none (some l) (some r)) = ob (sliceA P t v none (some l) (some r)) _; cases sliceA P t v none (some l) (some r) <;> rfl
theorem clip_sl (b n : Nat) : sliceA P 45 (.slice b 0 n (.opn 0)) none (some (.int .i64 (.ofNat n))) (some (.int .i64 (.ofNat n))) = some (.slice b 0 n (.exact n)) := by
 simp only [sliceA, u45a, show okT P 94 = true from by kernel_rfl, sliceOp, bndO, bnd, ble_t (Nat.le_refl n)]
 cases Nat.beq n 0 <;> rfl
theorem clipC (h : H) (b0 : Nat) (v : AV) (n : Nat) (cs : List AV) (g : Grows 8 b0 h v n cs) : PushC P (.enter 44 [v] h) (fun u h' => h' = h ∧ ((n = 0 ∧ v = .nilslice ∧ u = .nilslice) ∨ (∃ b, v = .slice b 0 n (.opn 0) ∧ u = .slice b 0 n (.exact n)))) := by
 have hlen := g.slice.len (P := P) u45a
 have hone := g.one
 cases g with
 | none =>
  have e : sliceA P 45 .nilslice none (some (.int .i64 (.ofNat 0))) (some (.int .i64 (.ofNat 0))) = some .nilslice:= by kernel_rfl
  refine pushC_of_codeW (fn := Try.f44) (c := bodyC Try.f44) Try.func44 rfl ?_
  show codeW P 44 9 none _ _ _ _ _
  refine codeW_root ?_
  repeat' (first | ((with_reducible refine st1 ?_); (conv => whnf); (with_reducible refine ⟨?_⟩)) | ((with_reducible refine retW_intro rfl ?_); (conv => arg 2; whnf)) | ((with_reducible first | refine iB ?_ ?_ | refine gWt ?_ ?_ | refine gWf ?_ ?_) <;> intro hb <;> (try simp only [hb])) | (simp only [B, F, reduceLT, reduceLeDiff, reduceEqDiff, reduceAdd, reduceMul, reduceSub, ↓reduceIte, eq_self, hlen, hone, @ex_sl_hm, e]))
  exact .inl trivial
 | cell b n cs t ty h1 h2 h3 h4 h5 =>
  have e := clip_sl b n
  refine pushC_of_codeW (fn := Try.f44) (c := bodyC Try.f44) Try.func44 rfl ?_
  show codeW P 44 9 none _ _ _ _ _
  refine codeW_root ?_
  repeat' (first | ((with_reducible refine st1 ?_); (conv => whnf); (with_reducible refine ⟨?_⟩)) | ((with_reducible refine retW_intro rfl ?_); (conv => arg 2; whnf)) | ((with_reducible first | refine iB ?_ ?_ | refine gWt ?_ ?_ | refine gWf ?_ ?_) <;> intro hb <;> (try simp only [hb])) | (simp only [B, F, reduceLT, reduceLeDiff, reduceEqDiff, reduceAdd, reduceMul, reduceSub, ↓reduceIte, eq_self, hlen, hone, @ex_sl_hm, e]))
  exact .inr ⟨b, rfl, rfl⟩
def failsB (W : View) (c : Cmp) : Bool := !holdsB c (getKV c.key W) (getR c.key W).isSome
set_option maxHeartbeats 4000000 in
theorem failsC (h0 : H) (b5 bd ro : Nat) (W : View) (c : Cmp) (k5 : cellAt h0 b5 0 = some (.ptr bd 0)) (k1 : cellAt h0 bd 1 = some (.map ro)) (mp : MapK encS h0 ro (mR W)) (l5 : b5 < h0.nx) (ld : bd < h0.nx) :
  PushC P (.enter 36 [.agg c.cs, .ptr b5 0] h0) (SaysG h0 (.bool (failsB W c))) := by
 obtain ⟨h1, h1e⟩ : ∃ h1, h1 = h0.newCells 68 c.cs := ⟨_, rfl⟩
 have o1 : Og h0 h1 []:= by rw [h1e]; exact (Og.refl _ _).new _ _
 have x1 : h1.nx = h0.nx + 1:= by rw [h1e]; rfl
 have bx := bxC h0 c
 rw [← h1e] at bx
 have Y : CellsAt h1 h0.nx 0 [.str c.key, .int .i64 c.what, .int .i64 c.how, .int .u64 (.ofNat c.n), .str c.val]:= by rw [h1e]; exact CellsAt.new h0 68 c.cs
 obtain ⟨y0, y1, y2, y3, y4⟩ := Y.u5
 have k51 := kc k5 o1 l5 (by simp)
 have k11 := kc k1 o1 ld (by simp)
 have m1 := mp.keep o1.1 (by simp)
 have lk := (look_mR m1 c.key).2
 have lkn := (look_mR (m1.keep ((Only.refl h1 []).new 94 [.int .u64 (.ofNat 0), .int .u64 (.ofNat 0), .str [], .str [], .int .u64 (.ofNat 0), .int .u64 (.ofNat 0), .int .u64 (.ofNat 0), .bool false]) (by simp)) c.key).2
 obtain ⟨x, hx⟩ : ∃ x, x = (getR c.key W).getD rec0 := ⟨_, rfl⟩
 obtain ⟨is, his⟩ : ∃ is, is = (getR c.key W).isSome := ⟨_, rfl⟩
 have hkv : getKV c.key W = x.kv:= by rw [getKV_eq, hx]
 have ef : failsB W c = !holdsB c x.kv is:= by unfold failsB; rw [hkv, his]
 rw [← hx, ← his] at lk lkn
 rw [ef]
 obtain ⟨h2, h2e, o2, x2, z0, z1, z2, z3, z4, z5, z6, z7, -⟩ := recBox h1 x
 obtain ⟨Y0, Y1, Y2, Y3, Y4⟩ := (gC Y o2 (by omega) (by simp)).u5
 have n1 : (b5 = h1.nx) = False:= by simp; omega
 have n2 : (bd = h1.nx) = False:= by simp; omega
 have n3 : (h0.nx = h1.nx) = False:= by simp; omega
 unfold Rec.cs at lk lkn
 refine pushC_of_codeW (fn := Try.f36) (c := bodyC Try.f36) Try.func36 rfl ?_
 show codeW P 36 22 none _ _ _ _ _
 refine codeW_root ?_
 repeat' (first | ((with_reducible refine st1 ?_); (conv => whnf); (with_reducible refine ⟨?_⟩)) | ((with_reducible refine st_dw ?_ rfl rfl ?_ ?_); exact rfl; kernel_rfl; (conv => arg 5; whnf); (conv => arg 3; whnf)) | ((with_reducible refine retW_intro rfl ?_); (conv => arg 2; whnf)) | ((with_reducible first | refine iB ?_ ?_ | refine gWt ?_ ?_ | refine gWf ?_ ?_ | refine gXt ?_ ?_ | refine gXf ?_ ?_) <;> intro hb <;> (try simp only [hb])) | ((with_reducible show drawI _ _ _ _ _ _ _ _ _); first | ((with_reducible refine kI_rd ?_ ?_); exact rfl) | ((with_reducible apply kI_rg); exact rfl; exact rfl) | ((with_reducible refine kI_cv ?_ ?_ ?_); exact rfl; kernel_rfl) | ((with_reducible apply kI_al); exact rfl; exact rfl) | ((with_reducible refine kI_ex ?_ ?_ ?_ ?_ ?_); exact rfl; kernel_rfl; exact rfl) | ((with_reducible apply kI_eg); exact rfl; kernel_rfl; exact rfl) | ((with_reducible refine kI_nl ?_ ?_))) | ((with_reducible show eOk _ _ _ _ _ _); first | (exact eok_nil) | (refine ke_rd ?_ ?_ ?_; exact rfl) | (apply ke_rg; exact rfl; exact rfl) | (refine ke_cv ?_ ?_ ?_ ?_; exact rfl; kernel_rfl) | (apply ke_fl; exact rfl) | (apply ke_al; exact rfl; exact rfl)) | ((with_reducible refine freshIs_new ?_); kernel_rfl) | (simp only [B, xB, F, reduceLT, reduceLeDiff, reduceEqDiff, reduceAdd, reduceMul, reduceSub, ↓reduceIte, eq_self, bx, k51, k11, y0, y1, y2, y3, y4, @ex_lookup, lk, lkn, h2e, n1, n2, n3, Y0, Y1, Y2, Y3, Y4, z0, z1, z2, z3, z4, z5, z6, z7]))
 refine ((holdsC h2 c x.kv is).call P).mono P ?_
 rintro _ h3 ⟨rfl, o3⟩
 refine rT0 ?_
 exact ⟨rfl, (o1.t o2).t o3⟩
end
end Go.Proofs.Ytnedigoajoflaaa.M

namespace Go.Proofs.Ytnedigoajoflaaa.M
open Go Go.AX
noncomputable section
set_option maxRecDepth 100000
def opS (rev : Nat) (L0 : List Rec) (R : List Rec) (op : Op) : Res × List Rec :=
 if op.kind = 0 then (resS op (inV (rangeV rev L0 R op) op.key op.fin), R)
 else if op.kind = 1 then (putR op (getR op.key (atV (rev + 1) (L0 ++ R))), R ++ [mkR rev R (putKV rev op (getR op.key (atV (rev + 1) (L0 ++ R)))) false])
 else (dropR op (inV (atV (rev + 1) (L0 ++ R)) op.key op.fin), dropRs rev R (inV (atV (rev + 1) (L0 ++ R)) op.key op.fin))
def opsF (rev : Nat) (L0 : List Rec) (s : List Res × List Rec) (op : Op) : List Res × List Rec := (s.1 ++ [(opS rev L0 s.2 op).1], (opS rev L0 s.2 op).2)
def opsS (rev : Nat) (L0 : List Rec) (l : List Op) : List Res × List Rec := l.foldl (opsF rev L0) ([], [])
theorem opsS_s {rev : Nat} {L0 : List Rec} {l : List Op} {i : Nat} {x : Op} (h : l[i]? = some x) : opsS rev L0 (l.take (i + 1)) = opsF rev L0 (opsS rev L0 (l.take i)) x := by
 unfold opsS
 rw [List.take_add_one, h, List.foldl_append]; rfl
theorem sl_lt {h : H} {v : AV} {n : Nat} {cs : List AV} (s : SliceAt h v n cs) : ∀ c, blkOf v = some c → c < h.nx := by
 intro c e
 cases s with
 | cell b o n cap cs hb hc => cases e; exact hb
 | none => cases e
 | zero => cases e
theorem opsS_len (rev : Nat) (L0 : List Rec) (l : List Op) : (opsS rev L0 l).1.length = l.length := by
 have h : ∀ (l : List Op) (s : List Res × List Rec), (l.foldl (opsF rev L0) s).1.length = s.1.length + l.length := by
  intro l
  induction l with
  | nil => intro s; rfl
  | cons a l ih => intro s; rw [List.foldl_cons, ih]; unfold opsF; simp; omega
 unfold opsS
 rw [h]; simp
theorem opC (h0 : H) (bd bm ro base : Nat) (L0 : List Rec) (v0 : AV) (rev comp : Nat) (R : List Rec) (w : AV) (d : DoAt h0 bd bm ro base L0 v0 rev comp R w) (op : Op) (kd : Nat) (hk : op.kind = Int.ofNat kd) (h3 : kd < 3) (hr : rev ≤ 1000000) (hs : Short L0) (hsR : Short R) (hz : L0.length ≤ 200000) (hzR : R.length ≤ 200000) :
  PushC P (.enter (41 + kd) [.ptr bd 0, .agg op.cs] h0) fun v h' => ∃ k p w', OpPost h0 h' bd bm ro base L0 v0 rev comp w (opS rev L0 R op).2 (opS rev L0 R op).1 v w' k p := by
 match kd, h3 with
 | 0, _ =>
  have e : opS rev L0 R op = (resS op (inV (rangeV rev L0 R op) op.key op.fin), R):= by unfold opS; rw [if_pos (by rw [hk]; rfl)]
  rw [e]
  refine (rangeOfC h0 bd bm ro base L0 v0 rev comp R w d op hs hsR (by omega) (by omega)).mono P ?_
  rintro v h' ⟨k, o⟩
  exact ⟨k, _, _, o⟩
 | 1, _ =>
  have e : opS rev L0 R op = (putR op (getR op.key (atV (rev + 1) (L0 ++ R))), R ++ [mkR rev R (putKV rev op (getR op.key (atV (rev + 1) (L0 ++ R)))) false]):= by unfold opS; rw [if_neg (by rw [hk]; decide), if_pos (by rw [hk]; rfl)]
  rw [e]
  refine (putC h0 bd bm ro base L0 v0 rev comp R w d op hr (by omega)).mono P ?_
  rintro v h' ⟨p, w', o⟩
  exact ⟨_, p, w', o⟩
 | 2, _ =>
  have e : opS rev L0 R op = (dropR op (inV (atV (rev + 1) (L0 ++ R)) op.key op.fin), dropRs rev R (inV (atV (rev + 1) (L0 ++ R)) op.key op.fin)):= by unfold opS; rw [if_neg (by rw [hk]; decide), if_neg (by rw [hk]; decide)]
  rw [e]
  refine (dropC h0 bd bm ro base L0 v0 rev comp R w d op hr hs hsR hz hzR).mono P ?_
  rintro v h' ⟨p, w', o⟩
  exact ⟨_, p, w', o⟩
abbrev RV := Res × AV × AV
def RVcs (x : RV) : List AV := x.1.cs x.2.1 x.2.2
theorem RVlen (x : RV) : (RVcs x).length = 5 := rfl
structure RVok (h : H) (lo : Nat) (w rw : AV) (x : RV) : Prop where
 ks : SliceAt h x.2.1 x.1.kvs.length (x.1.kvs.flatMap KV.cs)
 ps : SliceAt h x.2.2 x.1.prev.length (x.1.prev.flatMap KV.cs)
 kb : ∀ c, blkOf x.2.1 = some c → lo ≤ c ∧ c < h.nx ∧ blkOf w ≠ some c ∧ blkOf rw ≠ some c
 pb : ∀ c, blkOf x.2.2 = some c → lo ≤ c ∧ c < h.nx ∧ blkOf w ≠ some c ∧ blkOf rw ≠ some c
def ansC (err rev comp : Nat) (tk : Bool) (rw : AV) : List AV := [.int .i64 (.ofNat err), .int .u64 (.ofNat rev), .int .u64 (.ofNat comp), .bool tk, rw, .int .u32 (.ofNat 0), .int .u64 (.ofNat 0), .int .u64 (.ofNat 0), .int .i64 (.ofNat 0)]
structure TxH (h0 h : H) (bd bm ro base b4 b5 b11 : Nat) (L0 : List Rec) (v0 : AV) (rev comp : Nat) (R : List Rec) (w : AV) (xs : List RV) (rw : AV) : Prop where
 d : DoAt h bd bm ro base L0 v0 rev comp R w
 k5 : cellAt h b5 0 = some (.ptr bd 0)
 f : CellsAt h b11 0 [.func 41 [.ptr bd 0] [], .func 42 [.ptr bd 0] [], .func 43 [.ptr bd 0] []]
 a : CellsAt h b4 0 (ansC 0 0 0 false rw)
 w4 : wrAt h b4 = true
 gr : Grows 5 base h rw xs.length (xs.flatMap RVcs)
 ok : ∀ x, x ∈ xs → RVok h base w rw x
 nw : ∀ c, blkOf rw = some c → blkOf w ≠ some c
 oo : Og h0 h []
 l0 : h0.nx ≤ b4
 l4 : b4 < ro
 l5 : bd < b5
 l11 : b5 < b11
 lb : b11 < base
theorem u35a : P.underlying 35 = some (.slice 72):= by kernel_rfl
theorem u108a : P.underlying 108 = some (.array 3 107):= by kernel_rfl
theorem ia108 (b i : Nat) (hi : i < 3) : indexAddrA P 108 (.ptr b 0) (.int .i64 (.ofNat i)) = some (.ptr b i) := by
 have hb : Nat.blt i 3 = true := Nat.ble_eq_true_of_le hi
 unfold indexAddrA
 simp only [u108a, hb, show okT P 107 = true from by kernel_rfl, Bool.and_true, show P.cellsOf 107 = 1 from by kernel_rfl, Nat.mul_one, Nat.zero_add]
theorem cfK {kd : Nat} (h3 : kd < 3) (first cap args : List AV) (h : H) : callV P (.func (41 + kd) first cap) args h = .enter (41 + kd) (first ++ args ++ cap) h := by
 match kd, h3 with
 | 0, _ => exact callV_func 41 (by kernel_rfl) first cap args
 | 1, _ => exact callV_func 42 (by kernel_rfl) first cap args
 | 2, _ => exact callV_func 43 (by kernel_rfl) first cap args
theorem TxH.fk {h0 h : H} {bd bm ro base b4 b5 b11 : Nat} {L0 : List Rec} {v0 : AV} {rev comp : Nat} {R : List Rec} {w : AV} {xs : List RV} {rw : AV} (t : TxH h0 h bd bm ro base b4 b5 b11 L0 v0 rev comp R w xs rw) {kd : Nat} (h3 : kd < 3) : cellAt h b11 kd = some (.func (41 + kd) [.ptr bd 0] []) := by
 obtain ⟨f0, f1, f2⟩ := t.f.u3
 match kd, h3 with
 | 0, _ => exact f0
 | 1, _ => exact f1
 | 2, _ => exact f2
theorem DoAt.lt {h : H} {bd bm ro base rev comp : Nat} {L0 R : List Rec} {v0 w : AV} (d : DoAt h bd bm ro base L0 v0 rev comp R w) : bd < h.nx:= by have := d.l3; have := d.l4; omega
theorem RVok.move {h h' : H} {lo : Nat} {w rw w' rw' : AV} {x : RV} (k : RVok h lo w rw x) (hx : h.nx ≤ h'.nx) (e : ∀ c, lo ≤ c → c < h.nx → blkOf w ≠ some c → blkOf rw ≠ some c → h'.t.get c = h.t.get c ∧ blkOf w' ≠ some c ∧ blkOf rw' ≠ some c) : RVok h' lo w' rw' x :=
  ⟨k.ks.move hx (fun c q => (e c (k.kb c q).1 (k.kb c q).2.1 (k.kb c q).2.2.1 (k.kb c q).2.2.2).1), k.ps.move hx (fun c q => (e c (k.pb c q).1 (k.pb c q).2.1 (k.pb c q).2.2.1 (k.pb c q).2.2.2).1),
   fun c q => ⟨(k.kb c q).1, Nat.lt_of_lt_of_le (k.kb c q).2.1 hx, (e c (k.kb c q).1 (k.kb c q).2.1 (k.kb c q).2.2.1 (k.kb c q).2.2.2).2⟩, fun c q => ⟨(k.pb c q).1, Nat.lt_of_lt_of_le (k.pb c q).2.1 hx, (e c (k.pb c q).1 (k.pb c q).2.1 (k.pb c q).2.2.1 (k.pb c q).2.2.2).2⟩⟩
structure TyI (h0 : H) (bd bm ro base b4 b5 b11 : Nat) (L0 : List Rec) (v0 : AV) (rev comp : Nat) (tk : Bool) (l : List Op) (va : AV) (m : Nat) (ds : List Nat) (tm : T AV) (h : H) (i : Nat) (w : AV) (xs : List RV) (rw : AV) : Prop where
 ds : ds = []
 nn : m = l.length - i
 ii : i ≤ l.length
 t0 : tm.get 0 = some (.ptr bm 0)
 t4 : tm.get 4 = some (.ptr b4 0)
 t5 : tm.get 5 = some (.ptr b5 0)
 t7 : tm.get 7 = some (.bool tk)
 t11 : tm.get 11 = some (.ptr b11 0)
 t74 : tm.get 74 = some va
 t75 : tm.get 75 = some (.int .i64 (.ofNat l.length))
 t76 : tm.get 76 = some (.int .i64 (.ofNat i))
 hx : xs.map (·.1) = (opsS rev L0 (l.take i)).1
 hh : TxH h0 h bd bm ro base b4 b5 b11 L0 v0 rev comp (opsS rev L0 (l.take i)).2 w xs rw
set_option maxHeartbeats 4000000 in
theorem opsLoop (h0 h1 : H) (bd bm ro base b4 b5 b11 : Nat) (L0 : List Rec) (v0 : AV) (rev comp : Nat) (tk : Bool) (l : List Op) (va : AV) (hh : TxH h0 h1 bd bm ro base b4 b5 b11 L0 v0 rev comp [] .nilslice [] .nilslice) (sl : SliceAt h0 va l.length (l.flatMap Op.cs)) (hz : l.length ≤ 1000000) (hr : rev ≤ 1000000) (hs : Short L0) (hzL : L0.length ≤ 200000)
  (hB : ∀ i, i ≤ l.length → Short (opsS rev L0 (l.take i)).2 ∧ (opsS rev L0 (l.take i)).2.length ≤ 200000) (hk : ∀ op, op ∈ l → ∃ kd, op.kind = Int.ofNat kd ∧ kd < 3) (hbm : bm < b4) (hv0 : ∀ c, blkOf v0 = some c → c < b4)
  (tm : T AV) (t0 : tm.get 0 = some (.ptr bm 0)) (t4 : tm.get 4 = some (.ptr b4 0)) (t5 : tm.get 5 = some (.ptr b5 0)) (t7 : tm.get 7 = some (.bool tk)) (t11 : tm.get 11 = some (.ptr b11 0)) (t74 : tm.get 74 = some va) (t75 : tm.get 75 = some (.int .i64 (.ofNat l.length))) (t76 : tm.get 76 = some (.int .i64 (.ofNat 0))) (K : KQ)
  (hK : ∀ tm2 h2 w xs rw, tm2.get 0 = some (.ptr bm 0) → tm2.get 4 = some (.ptr b4 0) → tm2.get 5 = some (.ptr b5 0) → tm2.get 7 = some (.bool tk) → xs.map (·.1) = (opsS rev L0 l).1 → TxH h0 h2 bd bm ro base b4 b5 b11 L0 v0 rev comp (opsS rev L0 l).2 w xs rw → K .norm [] tm2 h2) :
  codeW P 20 121 none (codeI (bodyC Try.f20) [1, 0, 1, 1, 1, 1, 1, 1, 1, 1, 1, 1]) [] tm h1 K := by
 refine rN0 ?_
 refine st_loop (fun m ds tm h => ∃ i w xs rw, TyI h0 bd bm ro base b4 b5 b11 L0 v0 rev comp tk l va m ds tm h i w xs rw) l.length rfl ⟨0, .nilslice, [], .nilslice, rfl, rfl, Nat.zero_le _, t0, t4, t5, t7, t11, t74, t75, t76, rfl, hh⟩ (fun m ds tm h hI => ?_)
 clear t0 t4 t5 t7 t11 t74 t75 t76 hh
 obtain ⟨i, w, xs, rw_, rfl, rfl, ii, t0, t4, t5, t7, t11, t74, t75, t76, hxs, hh⟩ := hI
 by_cases hi : i < l.length
 ·have di : decide (i < l.length) = true := decide_eq_true hi
  have lt1 : (i < l.length) = True:= by simp [hi]
  obtain ⟨x, hx⟩ : ∃ x, l[i]? = some x := ⟨_, List.getElem?_eq_getElem hi⟩
  have slh := SliceAt.only hh.oo.1 sl (fun _ _ => by simp)
  obtain ⟨bv, ov, cv, rfl, hbv, -⟩ := slh.place (by omega)
  obtain ⟨q0, q1, q2, q3, q4, q5, q6, q7, q8⟩ := Op.at slh hx
  obtain ⟨h2, h2e, o2, x2, y0, y1, y2, y3, y4, y5, y6, y7, y8⟩ := opBox h x
  have w1 : wrapF .i64 (Int.ofNat i + Int.ofNat 1) = Int.ofNat (i + 1) := i64_add (by omega)
  obtain ⟨kd, hkd, h3⟩ := hk x (List.mem_of_getElem? hx)
  have g0 := hh.oo.1.1
  have g1 := hh.l0
  have g4 := hh.l4
  have g5 := hh.l5
  have g11 := hh.l11
  have gb := hh.lb
  have gd2 := hh.d.l2
  have gd3 := hh.d.l3
  have gd4 := hh.d.l4
  have f2 := kc (hh.fk h3) o2 (by omega) (by simp)
  have ia := ia108 b11 kd h3
  have cf := @cfK kd h3
  have A2 := gC hh.a o2 (by omega) (by simp)
  obtain ⟨a0, a1, a2, a3, a4, a5, a6, a7, a8⟩ := A2.u9
  rw [hkd] at y0
  obtain ⟨hsR, hzR⟩ := hB i ii
  have gro := hh.gr.one
  obtain ⟨R, hR⟩ : ∃ R, R = (opsS rev L0 (l.take i)).2 := ⟨_, rfl⟩
  have hss := opsS_s (rev := rev) (L0 := L0) hx
  rw [← hR] at hh hsR hzR
  repeat' (first | ((with_reducible refine st1 ?_); (conv => whnf); (with_reducible refine ⟨?_⟩)) | ((with_reducible refine st_dp ord20_0 ?_ rfl rfl ?_); exact rfl; (conv => arg 4; whnf); (conv => arg 3; whnf)) | ((with_reducible refine st_dw ?_ rfl rfl ?_ ?_); exact rfl; kernel_rfl; (conv => arg 5; whnf); (conv => arg 3; whnf)) | ((with_reducible refine retW_intro rfl ?_); (conv => arg 2; whnf)) | ((with_reducible first | refine iB ?_ ?_ | refine gWt ?_ ?_ | refine gWf ?_ ?_ | refine gXt ?_ ?_ | refine gXf ?_ ?_) <;> intro hb <;> (try simp only [hb])) | ((with_reducible show drawP _ _ _ _ _ _ _ _ _); first | ((with_reducible apply kP_rd); exact rfl; exact rfl) | ((with_reducible apply kP_rg); exact rfl; exact rfl; exact rfl) | ((with_reducible apply kP_cv); exact rfl; exact rfl; kernel_rfl) | ((with_reducible apply kP_al); exact rfl; exact rfl; exact rfl) | ((with_reducible apply kP_fl); exact rfl; exact rfl; exact rfl) | ((with_reducible apply kP_ex); exact rfl; exact rfl; kernel_rfl; exact rfl) | ((with_reducible apply kP_eg); exact rfl; exact rfl; kernel_rfl; exact rfl) | ((with_reducible refine kP_nl ?_ ?_))) | ((with_reducible show drawI _ _ _ _ _ _ _ _ _); first | ((with_reducible refine kI_rd ?_ ?_); exact rfl) | ((with_reducible apply kI_rg); exact rfl; exact rfl) | ((with_reducible refine kI_cv ?_ ?_ ?_); exact rfl; kernel_rfl) | ((with_reducible apply kI_al); exact rfl; exact rfl) | ((with_reducible refine kI_ex ?_ ?_ ?_ ?_ ?_); exact rfl; kernel_rfl; exact rfl) | ((with_reducible apply kI_eg); exact rfl; kernel_rfl; exact rfl) | ((with_reducible refine kI_nl ?_ ?_))) | ((with_reducible show eOk _ _ _ _ _ _); first | (exact eok_nil) | (refine ke_rd ?_ ?_ ?_; exact rfl) | (apply ke_rg; exact rfl; exact rfl) | (refine ke_cv ?_ ?_ ?_ ?_; exact rfl; kernel_rfl) | (apply ke_fl; exact rfl) | (apply ke_al; exact rfl; exact rfl)) | ((with_reducible refine freshIs_new ?_); kernel_rfl) | (simp only [B, xB, F, reduceLT, reduceLeDiff, reduceEqDiff, reduceAdd, reduceMul, reduceSub, ↓reduceIte, eq_self, t0, t4, t5, t7, t11, t74, t75, t76, di, lt1, q0, q1, q2, q3, q4, q5, q6, q7, q8, h2e, y0, y1, y2, y3, y4, y5, y6, y7, y8, a4, ia, f2, cf]))
  have hop := opC h2 bd bm ro base L0 v0 rev comp R w (hh.d.keep o2) x kd hkd h3 hr hs hsR hzL hzR
  unfold Op.cs at hop
  rw [hkd] at hop
  refine (hop.call P).mono P ?_
  rintro v2 h4 ⟨k, p, w3, o⟩
  obtain ⟨r, hre⟩ : ∃ r, r = (opS rev L0 R x).1 := ⟨_, rfl⟩
  obtain ⟨R2, hR2⟩ : ∃ R2, R2 = (opS rev L0 R x).2 := ⟨_, rfl⟩
  rw [← hre, ← hR2] at o
  obtain ⟨hv, oks, ops_, okb, opb, oko, opo, od, odk⟩ := o
  unfold Res.cs at hv
  subst hv
  have x4 := odk.nx
  have hwb : ∀ c, blkOf w = some c → base ≤ c ∧ c < h.nx := fun c e => hh.d.gr.base e
  have hrb : ∀ c, blkOf rw_ = some c → base ≤ c ∧ c < h.nx := fun c e => hh.gr.base e
  have kB : ∀ c, c < base → c ≠ bd → c ≠ ro → h4.t.get c = h2.t.get c := fun c hc n1 n2 => odk.old c (by omega) n1 n2 (fun e => by have := hwb c e; omega)
  have kN : ∀ c, c < h2.nx → base ≤ c → blkOf w ≠ some c → h4.t.get c = h2.t.get c := fun c hc hb hn => odk.old c hc (by omega) (by omega) hn
  have kX : h4.t.get h.nx = h2.t.get h.nx := kN h.nx (by omega) (by omega) (fun e => by have := hwb _ e; omega)
  have z : ∀ j, cellAt h4 h.nx j = cellAt h2 h.nx j := fun j => cellAt_of_get kX _
  rw [← z] at y0 y1 y2 y3 y4 y5 y6 y7 y8
  have A4 := A2.of_get (kB b4 (by omega) (by omega) (by omega))
  obtain ⟨c0, c1, c2, c3, c4, c5, c6, c7, c8⟩ := A4.u9
  have w44 : wrAt h4 b4 = true:= by rw [wrAt_of_get (kB b4 (by omega) (by omega) (by omega)), wrAt_of_get (o2.1.2 b4 (by omega) (by simp))]; exact hh.w4
  have f4 : cellAt h4 b11 kd = some (.func (41 + kd) [.ptr bd 0] []):= by rw [cellAt_of_get (kB b11 (by omega) (by omega) (by omega))]; exact f2
  obtain ⟨h5, h5e⟩ : ∃ h5, h5 = h4.newCells 72 [k, .bool r.more, .int .i64 (.ofNat r.cnt), .int .i64 (.ofNat r.del), p] := ⟨_, rfl⟩
  have o5 : Og h4 h5 []:= by rw [h5e]; exact (Og.refl _ _).new _ _
  have x5 : h5.nx = h4.nx + 1:= by rw [h5e]; rfl
  have hrow : h5.row h4.nx 0 5 = some [k, .bool r.more, .int .i64 (.ofNat r.cnt), .int .i64 (.ofNat r.del), p]:= by rw [h5e]; exact (CellsAt.new h4 72 [k, .bool r.more, .int .i64 (.ofNat r.cnt), .int .i64 (.ofNat r.del), p]).row (by simp)
  have kR : ∀ c, blkOf rw_ = some c → h5.t.get c = h.t.get c := fun c e => by
   have := hrb c e
   rw [o5.1.2 c (by omega) (by simp), kN c (by omega) this.1 (hh.nw c e), o2.1.2 c this.2 (by simp)]
  have gr5 : Grows 5 base h5 rw_ _ _ := hh.gr.of_get (by omega) kR
  have hxl : xs.length = i := by
   have e := congrArg List.length hxs
   rw [List.length_map] at e
   rw [e, opsS_len, List.length_take]; omega
  have c45 := kc c4 o5 (by omega) (by simp)
  repeat' (first | ((with_reducible refine st1 ?_); (conv => whnf); (with_reducible refine ⟨?_⟩)) | ((with_reducible refine st_dp ord20_0 ?_ rfl rfl ?_); exact rfl; (conv => arg 4; whnf); (conv => arg 3; whnf)) | ((with_reducible refine st_dw ?_ rfl rfl ?_ ?_); exact rfl; kernel_rfl; (conv => arg 5; whnf); (conv => arg 3; whnf)) | ((with_reducible refine retW_intro rfl ?_); (conv => arg 2; whnf)) | ((with_reducible first | refine iB ?_ ?_ | refine gWt ?_ ?_ | refine gWf ?_ ?_ | refine gXt ?_ ?_ | refine gXf ?_ ?_) <;> intro hb <;> (try simp only [hb])) | ((with_reducible show drawP _ _ _ _ _ _ _ _ _); first | ((with_reducible apply kP_rd); exact rfl; exact rfl) | ((with_reducible apply kP_rg); exact rfl; exact rfl; exact rfl) | ((with_reducible apply kP_cv); exact rfl; exact rfl; kernel_rfl) | ((with_reducible apply kP_al); exact rfl; exact rfl; exact rfl) | ((with_reducible apply kP_fl); exact rfl; exact rfl; exact rfl) | ((with_reducible apply kP_ex); exact rfl; exact rfl; kernel_rfl; exact rfl) | ((with_reducible apply kP_eg); exact rfl; exact rfl; kernel_rfl; exact rfl) | ((with_reducible refine kP_nl ?_ ?_))) | ((with_reducible show drawI _ _ _ _ _ _ _ _ _); first | ((with_reducible refine kI_rd ?_ ?_); exact rfl) | ((with_reducible apply kI_rg); exact rfl; exact rfl) | ((with_reducible refine kI_cv ?_ ?_ ?_); exact rfl; kernel_rfl) | ((with_reducible apply kI_al); exact rfl; exact rfl) | ((with_reducible refine kI_ex ?_ ?_ ?_ ?_ ?_); exact rfl; kernel_rfl; exact rfl) | ((with_reducible apply kI_eg); exact rfl; kernel_rfl; exact rfl) | ((with_reducible refine kI_nl ?_ ?_))) | ((with_reducible show eOk _ _ _ _ _ _); first | (exact eok_nil) | (refine ke_rd ?_ ?_ ?_; exact rfl) | (apply ke_rg; exact rfl; exact rfl) | (refine ke_cv ?_ ?_ ?_ ?_; exact rfl; kernel_rfl) | (apply ke_fl; exact rfl) | (apply ke_al; exact rfl; exact rfl)) | ((with_reducible refine freshIs_new ?_); kernel_rfl) | (simp only [B, xB, F, reduceLT, reduceLeDiff, reduceEqDiff, reduceAdd, reduceMul, reduceSub, ↓reduceIte, eq_self, t4, t11, c45, gro, oko, opo, y0, y1, y2, y3, y4, y5, y6, y7, y8, c4, ia, f4, cf, ← h5e, hrow]))
  refine exW_growsG (m := 1) (new := RVcs (r, k, p)) gr5 (by omega) (by omega) (by omega) rfl (by omega) (fun v7 h7 g7 x7 old7 bl7 gg7 => ?_)
  have g7o := g7.one
  have g7c := g7.cells
  have k7 : ∀ c, c < h5.nx → blkOf rw_ ≠ some c → h7.t.get c = h5.t.get c := old7
  have nb : ∀ c, c < base → blkOf rw_ ≠ some c := fun c hc e => by have := hrb c e; omega
  have A7 : CellsAt h7 b4 0 (ansC 0 0 0 false rw_) := (A4.of_get (o5.1.2 b4 (by omega) (by simp))).of_get (k7 b4 (by omega) (nb b4 (by omega)))
  obtain ⟨e0, e1, e2, e3, e4, e5, e6, e7, e8⟩ := A7.u9
  have w47 : wrAt h7 b4 = true:= by rw [wrAt_of_get (k7 b4 (by omega) (nb b4 (by omega))), wrAt_of_get (o5.1.2 b4 (by omega) (by simp))]; exact w44
  obtain ⟨h8, h8e⟩ : ∃ h8, h8 = h7.sts b4 4 [v7] := ⟨_, rfl⟩
  have A8 := A7.put w47 (j := 4) (by simp [ansC]) v7
  rw [Nat.zero_add, ← h8e] at A8
  have k8 : ∀ c, c ≠ b4 → h8.t.get c = h7.t.get c := fun c hc => by rw [h8e, get_sts _ _ _ _ hc]
  have x8 : h8.nx = h7.nx:= by rw [h8e, nx_sts]
  repeat' (first | ((with_reducible refine st1 ?_); (conv => whnf); (with_reducible refine ⟨?_⟩)) | ((with_reducible refine st_dp ord20_0 ?_ rfl rfl ?_); exact rfl; (conv => arg 4; whnf); (conv => arg 3; whnf)) | ((with_reducible refine st_dw ?_ rfl rfl ?_ ?_); exact rfl; kernel_rfl; (conv => arg 5; whnf); (conv => arg 3; whnf)) | ((with_reducible refine retW_intro rfl ?_); (conv => arg 2; whnf)) | ((with_reducible first | refine iB ?_ ?_ | refine gWt ?_ ?_ | refine gWf ?_ ?_ | refine gXt ?_ ?_ | refine gXf ?_ ?_) <;> intro hb <;> (try simp only [hb])) | ((with_reducible show drawP _ _ _ _ _ _ _ _ _); first | ((with_reducible apply kP_rd); exact rfl; exact rfl) | ((with_reducible apply kP_rg); exact rfl; exact rfl; exact rfl) | ((with_reducible apply kP_cv); exact rfl; exact rfl; kernel_rfl) | ((with_reducible apply kP_al); exact rfl; exact rfl; exact rfl) | ((with_reducible apply kP_fl); exact rfl; exact rfl; exact rfl) | ((with_reducible apply kP_ex); exact rfl; exact rfl; kernel_rfl; exact rfl) | ((with_reducible apply kP_eg); exact rfl; exact rfl; kernel_rfl; exact rfl) | ((with_reducible refine kP_nl ?_ ?_))) | ((with_reducible show drawI _ _ _ _ _ _ _ _ _); first | ((with_reducible refine kI_rd ?_ ?_); exact rfl) | ((with_reducible apply kI_rg); exact rfl; exact rfl) | ((with_reducible refine kI_cv ?_ ?_ ?_); exact rfl; kernel_rfl) | ((with_reducible apply kI_al); exact rfl; exact rfl) | ((with_reducible refine kI_ex ?_ ?_ ?_ ?_ ?_); exact rfl; kernel_rfl; exact rfl) | ((with_reducible apply kI_eg); exact rfl; kernel_rfl; exact rfl) | ((with_reducible refine kI_nl ?_ ?_))) | ((with_reducible show eOk _ _ _ _ _ _); first | (exact eok_nil) | (refine ke_rd ?_ ?_ ?_; exact rfl) | (apply ke_rg; exact rfl; exact rfl) | (refine ke_cv ?_ ?_ ?_ ?_; exact rfl; kernel_rfl) | (apply ke_fl; exact rfl) | (apply ke_al; exact rfl; exact rfl)) | ((with_reducible refine freshIs_new ?_); kernel_rfl) | (simp only [B, xB, F, reduceLT, reduceLeDiff, reduceEqDiff, reduceAdd, reduceMul, reduceSub, ↓reduceIte, eq_self, t4, t11, g7o, g7c, e4, w47, ← h8e, t76, w1]))
  have fz : opsS rev L0 (l.take (i + 1)) = ((opsS rev L0 (l.take i)).1 ++ [r], R2) := by
   rw [hss]; unfold opsF; rw [← hR, ← hre, ← hR2]
  -- what stays, from the call on
  have kk : ∀ c, c < h4.nx → c ≠ b4 → blkOf rw_ ≠ some c → h8.t.get c = h4.t.get c := fun c hc n1 n2 => by rw [k8 c n1, k7 c (by omega) n2, o5.1.2 c hc (by simp)]
  have w3b : ∀ c, blkOf w3 = some c → blkOf w = some c ∨ h2.nx ≤ c := odk.nw
  have w3l : ∀ c, blkOf w3 = some c → c < h4.nx := fun c e => (od.gr.base e).2
  have w3r : ∀ c, blkOf w3 = some c → blkOf rw_ ≠ some c := fun c e e2 => by
   rcases w3b c e with q | q
   ·exact hh.nw c e2 q
   ·have := hrb c e2; omega
  have d8 : DoAt h8 bd bm ro base L0 v0 rev comp R2 w3 := by
   have g : ∀ c, c < base → c ≠ b4 → h8.t.get c = h4.t.get c := fun c hc n => kk c (by omega) n (nb c hc)
   exact ⟨by rw [cellAt_of_get (g bd (by omega) (by omega))]; exact od.c0, by rw [cellAt_of_get (g bd (by omega) (by omega))]; exact od.c1, by rw [cellAt_of_get (g bd (by omega) (by omega))]; exact od.c2, by rw [wrAt_of_get (g bd (by omega) (by omega))]; exact od.wr, od.md.keep (by omega) (g bm (by have := od.l1; omega) (by have := od.md.lt; have := hbm; omega)) (fun c e => g c (by have := od.nv c e; omega) (by have := hv0 c e; omega)), od.mp.get (by omega) (g ro (by omega) (by omega)), od.gr.of_get (by omega) (fun c e => kk c (w3l c e) (by have := od.gr.base e; omega) (w3r c e)), od.l1, od.l2, od.l3, by omega, od.nv⟩
  refine ⟨l.length - (i + 1), by omega, i + 1, w3, xs ++ [(r, k, p)], v7, rfl, rfl, by omega, by exact sT, by exact sT, by exact sT, by exact sT, by exact sT, by exact sT, by exact sT, by exact sT, by rw [fz, List.map_append, hxs]; rfl, ?_⟩
  rw [fz]
  refine ⟨d8, ?_, ?_, A8, by rw [h8e, wrAt_sts]; exact w47, ?_, fun y hy => ?_, fun c e e2 => ?_, ⟨⟨by omega, fun c hc _ => ?_⟩, by rw [h8e, g_sts, gg7, o5.2, odk.g, o2.2, hh.oo.2]⟩, g1, g4, g5, g11, gb⟩
  ·rw [cellAt_of_get (kk b5 (by omega) (by omega) (nb b5 (by omega))), cellAt_of_get (kB b5 (by omega) (by omega) (by omega)), cellAt_of_get (o2.1.2 b5 (by omega) (by simp))]; exact hh.k5
  ·exact ((hh.f.of_get (o2.1.2 b11 (by omega) (by simp))).of_get (kB b11 (by omega) (by omega) (by omega))).of_get (kk b11 (by omega) (by omega) (nb b11 (by omega)))
  ·rw [List.length_append, List.flatMap_append, List.flatMap_singleton]
   exact g7.of_get (by omega) (fun c e => k8 c (by have := g7.base e; omega))
  ·rcases List.mem_append.1 hy with q | q
   ·refine (hh.ok y q).move (by omega) (fun c hc hc2 n1 n2 => ⟨?_, fun e => ?_, fun e => ?_⟩)
    ·rw [kk c (by omega) (by omega) n2, kN c (by omega) hc n1, o2.1.2 c hc2 (by simp)]
    ·rcases w3b c e with q | q
     ·exact n1 q
     ·omega
    ·rw [bl7] at e; cases e; omega
   ·rw [List.mem_singleton] at q; subst q
    have kl : ∀ c, blkOf k = some c → c < h4.nx := sl_lt oks
    have pl : ∀ c, blkOf p = some c → c < h4.nx := sl_lt ops_
    have nr : ∀ c, h2.nx ≤ c → blkOf rw_ ≠ some c := fun c hc e => by have := hrb c e; omega
    refine ⟨oks.move (by omega) (fun c e => kk c (kl c e) (by have := okb c e; omega) (nr c (okb c e).1)), ops_.move (by omega) (fun c e => kk c (pl c e) (by have := opb c e; omega) (nr c (opb c e).1)), fun c e => ⟨by have := okb c e; omega, by have := kl c e; omega, (okb c e).2, fun e2 => ?_⟩, fun c e => ⟨by have := opb c e; omega, by have := pl c e; omega, (opb c e).2, fun e2 => ?_⟩⟩
    ·rw [bl7] at e2; cases e2; have := kl _ e; omega
    ·rw [bl7] at e2; cases e2; have := pl _ e; omega
  ·rw [bl7] at e; cases e; have := w3l _ e2; omega
  ·rw [kk c (by omega) (by omega) (nb c (by omega)), kB c (by omega) (by omega) (by omega), o2.1.2 c (by omega) (by simp)]; exact hh.oo.1.2 c hc (by simp)
 ·have di : decide (i < l.length) = false := decide_eq_false hi
  obtain rfl : i = l.length:= by omega
  rw [List.take_length] at hxs hh
  refine rN ?_ (V t0<|V t4<|V t5<|V t7<|V t11<|V t74<|V t75<|V t76<|di)
  exact hK _ _ w xs rw_ (by exact sT) (by exact sT) (by exact sT) (by exact sT) hxs hh
end
end Go.Proofs.Ytnedigoajoflaaa.M

namespace Go.Proofs.Ytnedigoajoflaaa.M
open Go Go.AX
noncomputable section
set_option maxRecDepth 100000
def firstW (rev comp : Nat) : List Op → Nat
 | [] => 0
 | o :: l => if whenO o rev comp = 0 then firstW rev comp l else whenO o rev comp
theorem firstW_ok {rev comp : Nat} : ∀ {l : List Op}, (∀ (i : Nat) o, l[i]? = some o → whenO o rev comp = 0) → firstW rev comp l = 0
 | [], _ => rfl
 | o :: l, h => by
  unfold firstW
  rw [if_pos (h 0 o rfl)]
  exact firstW_ok fun i x hx => h (i + 1) x (by simpa using hx)
theorem firstW_at {rev comp : Nat} : ∀ {l : List Op} {i : Nat} {o : Op}, l[i]? = some o → (∀ j x, j < i → l[j]? = some x → whenO x rev comp = 0) → whenO o rev comp ≠ 0 → firstW rev comp l = whenO o rev comp
 | [], i, o, h, _, _ => by simp at h
 | a :: l, 0, o, h, _, hn => by
  simp at h; subst h
  unfold firstW; rw [if_neg hn]
 | a :: l, i + 1, o, h, hj, hn => by
  unfold firstW
  rw [if_pos (hj 0 a (by omega) rfl)]
  exact firstW_at (i := i) (by simpa using h) (fun j x h1 h2 => hj (j + 1) x (by omega) (by simpa using h2)) hn
structure TwH (h0 h : H) (bm b4 : Nat) (rev comp : Nat) : Prop where
 m1 : cellAt h bm 1 = some (.int .u64 (.ofNat rev))
 m2 : cellAt h bm 2 = some (.int .u64 (.ofNat comp))
 a : CellsAt h b4 0 (ansC 0 0 0 false .nilslice)
 w4 : wrAt h b4 = true
 oo : Og h0 h [b4]
theorem TwH.keep {h0 h h' : H} {bm b4 rev comp : Nat} (t : TwH h0 h bm b4 rev comp) (o : Og h h' []) (hb : bm < h.nx) (h4 : b4 < h.nx) : TwH h0 h' bm b4 rev comp :=
 ⟨kc t.m1 o hb (by simp), kc t.m2 o hb (by simp), gC t.a o h4 (by simp), kw t.w4 o h4 (by simp), ⟨⟨Nat.le_trans t.oo.1.1 o.1.1, fun c hc hn => (o.1.2 c (Nat.lt_of_lt_of_le hc t.oo.1.1) (by simp)).trans (t.oo.1.2 c hc hn)⟩, o.2.trans t.oo.2⟩⟩
structure TzI (h0 : H) (bm b4 b5 : Nat) (rev comp : Nat) (tk : Bool) (l : List Op) (va : AV) (m : Nat) (ds : List Nat) (tm : T AV) (h : H) (i : Nat) : Prop where
 ds : ds = []
 nn : m = l.length - i
 ii : i ≤ l.length
 t0 : tm.get 0 = some (.ptr bm 0)
 t4 : tm.get 4 = some (.ptr b4 0)
 t5 : tm.get 5 = some (.ptr b5 0)
 t7 : tm.get 7 = some (.bool tk)
 t8 : tm.get 8 = some va
 t45 : tm.get 45 = some va
 t46 : tm.get 46 = some (.int .i64 (.ofNat l.length))
 t47 : tm.get 47 = some (.int .i64 (.ofNat i))
 no : ∀ j x, j < i → l[j]? = some x → whenO x rev comp = 0
 hh : TwH h0 h bm b4 rev comp
set_option maxHeartbeats 4000000 in
theorem whenLoop (h0 : H) (bm b4 b5 : Nat) (rev comp : Nat) (tk : Bool) (l : List Op) (va : AV) (hh : TwH h0 h0 bm b4 rev comp) (sl : SliceAt h0 va l.length (l.flatMap Op.cs)) (hz : l.length ≤ 1000000) (hb : bm < h0.nx) (h4 : b4 < h0.nx) (nb : ∀ c, blkOf va = some c → c ≠ b4) (hne : bm ≠ b4)
  (tm : T AV) (t0 : tm.get 0 = some (.ptr bm 0)) (t4 : tm.get 4 = some (.ptr b4 0)) (t5 : tm.get 5 = some (.ptr b5 0)) (t7 : tm.get 7 = some (.bool tk)) (t8 : tm.get 8 = some va) (K : KQ)
  (hR : ∀ tm2 h2, tm2.get 4 = some (.ptr b4 0) → Og h0 h2 [b4] → CellsAt h2 b4 0 (ansC (firstW rev comp l) 0 0 false .nilslice) → firstW rev comp l ≠ 0 → K .ret [] tm2 h2)
  (hN : ∀ tm2 h2, tm2.get 0 = some (.ptr bm 0) → tm2.get 4 = some (.ptr b4 0) → tm2.get 5 = some (.ptr b5 0) → tm2.get 7 = some (.bool tk) → tm2.get 8 = some va → TwH h0 h2 bm b4 rev comp → firstW rev comp l = 0 → K .norm [] tm2 h2) :
  codeW P 20 121 none (codeI (bodyC Try.f20) [0, 1, 1, 1, 1, 1, 1, 1, 1]) [] tm h0 K := by
 have hlen := sl.len (P := P) u29a
 have vo := sl_one sl
 refine rN ?_ (V t0<|V t4<|V t5<|V t7<|V t8<|V hlen<|vo)
 refine st_loop (fun m ds tm h => ∃ i, TzI h0 bm b4 b5 rev comp tk l va m ds tm h i) l.length rfl ⟨0, rfl, rfl, Nat.zero_le _, by exact sT, by exact sT, by exact sT, by exact sT, by exact sT, by exact sT, by exact sT, by exact sT, fun j x hj => absurd hj (by omega), hh⟩ (fun m ds tm h hI => ?_)
 clear t0 t4 t5 t7 t8 hh
 obtain ⟨i, rfl, rfl, ii, t0, t4, t5, t7, t8, t45, t46, t47, no, hh⟩ := hI
 by_cases hi : i < l.length
 ·have di : decide (i < l.length) = true := decide_eq_true hi
  have lt1 : (i < l.length) = True:= by simp [hi]
  obtain ⟨x, hx⟩ : ∃ x, l[i]? = some x := ⟨_, List.getElem?_eq_getElem hi⟩
  have g0 := hh.oo.1.1
  have slh := SliceAt.only hh.oo.1 sl (fun c e => by simp; exact nb c e)
  obtain ⟨bv, ov, cv, rfl, hbv, -⟩ := slh.place (by omega)
  obtain ⟨q0, q1, q2, q3, q4, q5, q6, q7, q8⟩ := Op.at slh hx
  obtain ⟨h2, h2e, o2, x2, y0, y1, y2, y3, y4, y5, y6, y7, y8⟩ := opBox h x
  have w1 : wrapF .i64 (Int.ofNat i + Int.ofNat 1) = Int.ofNat (i + 1) := i64_add (by omega)
  have H2 := hh.keep o2 (by omega) (by omega)
  have m1 := H2.m1
  have m2 := H2.m2
  refine rT ?_ (V t0<|V t4<|V t5<|V t7<|V t8<|V t45<|V t46<|V t47<|V di<|V lt1<|V q0<|V q1<|V q2<|V q3<|V q4<|V q5<|V q6<|V q7<|V q8<|V h2e<|V y0<|V y1<|V y2<|V y3<|V y4<|V y5<|V y6<|V y7<|V y8<|V m1<|m2)
  refine ((whenC h2 x rev comp).call P).mono P ?_
  rintro _ h3 ⟨rfl, o3⟩
  have x3 := o3.1.1
  have H3 := H2.keep o3 (by omega) (by omega)
  have M1 := H3.m1
  have M2 := H3.m2
  have w43 := H3.w4
  obtain ⟨a0, a1, a2, a3, a4, a5, a6, a7, a8⟩ := H3.a.u9
  have Y3 := gC (show CellsAt h2 h.nx 0 x.cs from .m9 y0 y1 y2 y3 y4 y5 y6 y7 y8) o3 (by omega) (by simp)
  obtain ⟨z0, z1, z2, z3, z4, z5, z6, z7, z8⟩ := Y3.u9
  obtain ⟨e, he⟩ : ∃ e, e = whenO x rev comp := ⟨_, rfl⟩
  obtain ⟨h4', h4e⟩ : ∃ h4', h4' = h3.sts b4 0 [.int .i64 (.ofNat e)] := ⟨_, rfl⟩
  have A4 := H3.a.put w43 (j := 0) (by simp [ansC]) (.int .i64 (.ofNat e))
  rw [Nat.zero_add, ← h4e] at A4
  have A4' : CellsAt h4' b4 0 (ansC e 0 0 false .nilslice) := A4
  obtain ⟨b0, b1, b2, b3, b4', b5', b6, b7, b8⟩ := A4'.u9
  have w44 : wrAt h4' b4 = true:= by rw [h4e, wrAt_sts]; exact w43
  have o4 : Og h0 h4' [b4]:= by rw [h4e]; exact H3.oo.sts (.inl (by simp))
  have k4 : ∀ c, c ≠ b4 → h4'.t.get c = h3.t.get c := fun c hc => by rw [h4e, get_sts _ _ _ _ hc]
  rw [← he]
  by_cases qe : e = 0
  ·have de : decide (e = 0) = true := decide_eq_true qe
   refine rT ?_ (V t0<|V t4<|V M1<|V M2<|V z0<|V z1<|V z2<|V z3<|V z4<|V z5<|V z6<|V z7<|V z8<|V a0<|V w43<|V h4e.symm<|V b0<|V de<|V @Bool.not_true<|V t47<|w1)
   refine ⟨l.length - (i + 1), by omega, i + 1, rfl, rfl, by omega, by exact sT, by exact sT, by exact sT, by exact sT, by exact sT, by exact sT, by exact sT, by exact sT, fun j y hj hy => ?_, ⟨by rw [cellAt_of_get (k4 bm hne)]; exact M1, by rw [cellAt_of_get (k4 bm hne)]; exact M2, by rw [qe] at A4'; exact A4', w44, o4⟩⟩
   by_cases ej : j < i
   ·exact no j y ej hy
   ·obtain rfl : j = i:= by omega
    rw [hx] at hy; cases hy; rw [← he]; exact qe
  ·have de : decide (e = 0) = false := decide_eq_false qe
   have ef : firstW rev comp l = e:= by rw [he]; exact firstW_at hx no (by rw [← he]; exact qe)
   obtain ⟨h5, h5e⟩ : ∃ h5, h5 = h4'.sts b4 0 (ansC e 0 0 false .nilslice) := ⟨_, rfl⟩
   have A5 : CellsAt h5 b4 0 (ansC e 0 0 false .nilslice):= by rw [h5e]; exact CellsAt.sts w44 _
   have o5 : Og h0 h5 [b4]:= by rw [h5e]; exact o4.sts (.inl (by simp))
   unfold ansC at h5e
   refine rT ?_ (V t0<|V t4<|V M1<|V M2<|V z0<|V z1<|V z2<|V z3<|V z4<|V z5<|V z6<|V z7<|V z8<|V a0<|V w43<|V h4e.symm<|V b0<|V b1<|V b2<|V b3<|V b4'<|V b5'<|V b6<|V b7<|V b8<|V de<|V @Bool.not_false<|V w44<|h5e.symm)
   exact hR _ _ (by exact sT) o5 (by rw [ef]; exact A5) (by rw [ef]; exact qe)
 ·have di : decide (i < l.length) = false := decide_eq_false hi
  obtain rfl : i = l.length:= by omega
  refine rN ?_ (V t0<|V t4<|V t5<|V t7<|V t8<|V t45<|V t46<|V t47<|di)
  exact hN _ _ (by exact sT) (by exact sT) (by exact sT) (by exact sT) (by exact sT) hh (firstW_ok fun j x hj => no j x (List.getElem?_eq_some_iff.1 hj).1 hj)
end
end Go.Proofs.Ytnedigoajoflaaa.M

namespace Go.Proofs.Ytnedigoajoflaaa.M
open Go Go.AX
noncomputable section
set_option maxRecDepth 100000
theorem i45 : infoOk P 94 8 = true:= by kernel_rfl
def ClipOf (v u : AV) (n : Nat) : Prop := (n = 0 ∧ v = .nilslice ∧ u = .nilslice) ∨ (∃ b, v = .slice b 0 n (.opn 0) ∧ u = .slice b 0 n (.exact n))
theorem commitV {h : H} {b0 base n m : Nat} {v0 u w : AV} {cs0 csw : List AV} (cl : ClipOf v0 u n) (gv : Grows 8 b0 h v0 n cs0) (gw : Grows 8 base h w m csw) (hm : 0 < m) (hz : n + m ≤ 1000000) {K : AV → H → Prop}
  (hk : ∀ v1 h2, Grows 8 h.nx h2 v1 (n + m) (cs0 ++ csw) → Og h h2 [] → K v1 h2) : exW P (builtinA P .append [45, 45] [u, w] h) K := by
 rcases cl with ⟨rfl, rfl, rfl⟩ | ⟨b, rfl, rfl⟩
 ·cases gv with
  | none =>
   rw [Nat.zero_add, List.nil_append] at hk
   refine app_row (base := h.nx) (n0 := 0) (cs0 := []) (by omega) u45a i45 Grows.none gw (Nat.le_refl _) (by omega) (fun v7 h7 g7 x7 old7 bl7 gg7 => ?_)
   rw [Nat.zero_add, List.nil_append] at g7
   exact hk v7 h7 g7 ⟨⟨x7, fun c hc _ => old7 c hc (by simp [blkOf])⟩, gg7⟩
 ·cases gv with
  | cell b n cs t ty h1 h2 h3 h4 h5 =>
   cases gw with
   | none => omega
   | cell bw m csw tw tyw w1 w2 w3 w4 w5 =>
    have hr := (grow_rowB (base := b0) h2 h4 h5)
    have hrw := (grow_rowB (base := base) w2 w4 w5)
    have r2 := hrw.row (o := 0) (n := m * 8) (by omega) (by omega)
    rw [List.drop_zero, List.take_of_length_le (by omega)] at r2
    rw [bi_append2 u45a u45a (fun k h => by cases h) i45, r2]
    have hrow0 : h.row b 0 (n * 8) = some cs0 := by
     rcases Nat.eq_zero_or_pos n with q | q
     ·subst q
      rw [Nat.zero_mul, row_zero hr 0]
      have : cs0 = [] := List.length_eq_zero_iff.1 (by omega)
      rw [this]
     ·have r1 := hr.row (o := 0) (n := n * 8) (by omega) (by omega)
      rwa [List.drop_zero, List.take_of_length_le (by omega)] at r1
    refine exW_xgrow (by omega) w3 (by omega) hrow0 (hk _ _ ?_ ⟨grown_only, rfl⟩)
    have hln : (cs0 ++ csw).length = (n + m) * 8:= by rw [List.length_append, h3, w3, Nat.add_mul]
    refine .cell h.nx (n + m) _ (T.ofRow (cs0 ++ csw)) 95 (Nat.le_refl _) (by rw [grownL_nx]; omega) hln ?_ (T.get_ofRow _)
    rw [← hln]
    exact grownL_new _ _ _ _
structure TxPost (h0 h' : H) (bm : Nat) (L0 : List Rec) (rev comp : Nat) (err : Nat) (tk : Bool) (rs : List Res) (R : List Rec) (v : AV) (xs : List RV) (rw_ v1 v0 : AV) : Prop where
 v : v = .agg (ansC err 0 0 tk rw_)
 hx : xs.map (·.1) = rs
 gr : SliceAt h' rw_ xs.length (xs.flatMap RVcs)
 ok : ∀ x, x ∈ xs → SliceAt h' x.2.1 x.1.kvs.length (x.1.kvs.flatMap KV.cs) ∧ SliceAt h' x.2.2 x.1.prev.length (x.1.prev.flatMap KV.cs)
 md : MdAt h' bm (L0 ++ R) (if R = [] then rev else rev + 1) comp v1
 gv : Grows 8 0 h' v1 (L0 ++ R).length ((L0 ++ R).flatMap Rec.cs)
 oo : Og h0 h' [bm]
 nv : ∀ c, blkOf v1 = some c → c ≠ bm
 rb : ∀ c, blkOf rw_ = some c → h0.nx ≤ c
 xb : ∀ x, x ∈ xs → (∀ c, blkOf x.2.1 = some c → h0.nx ≤ c) ∧ (∀ c, blkOf x.2.2 = some c → h0.nx ≤ c)
 vb : ∀ c, blkOf v1 = some c → blkOf v0 = some c ∨ h0.nx ≤ c
structure RowOk (h : H) (rw_ : AV) (xs : List RV) : Prop where
 gr : SliceAt h rw_ xs.length (xs.flatMap RVcs)
 ok : ∀ x, x ∈ xs → SliceAt h x.2.1 x.1.kvs.length (x.1.kvs.flatMap KV.cs) ∧ SliceAt h x.2.2 x.1.prev.length (x.1.prev.flatMap KV.cs)
theorem RowOk.move {h h' : H} {rw_ : AV} {xs : List RV} {lo : Nat} (k : RowOk h rw_ xs) (hx : h.nx ≤ h'.nx) (e : ∀ c, lo ≤ c → c < h.nx → h'.t.get c = h.t.get c) (b1 : ∀ c, blkOf rw_ = some c → lo ≤ c) (b2 : ∀ x, x ∈ xs → (∀ c, blkOf x.2.1 = some c → lo ≤ c) ∧ (∀ c, blkOf x.2.2 = some c → lo ≤ c)) : RowOk h' rw_ xs :=
 ⟨k.gr.move hx (fun c q => e c (b1 c q) (sl_lt k.gr c q)), fun x hx2 => ⟨(k.ok x hx2).1.move hx (fun c q => e c ((b2 x hx2).1 c q) (sl_lt (k.ok x hx2).1 c q)), (k.ok x hx2).2.move hx (fun c q => e c ((b2 x hx2).2 c q) (sl_lt (k.ok x hx2).2 c q))⟩⟩
set_option maxHeartbeats 4000000 in
theorem txnEnd (h0 h : H) (bd bm ro base b4 b5 b11 : Nat) (L0 : List Rec) (v0 : AV) (rev comp : Nat) (tk : Bool) (R : List Rec) (w : AV) (xs : List RV) (rw_ : AV) (hh : TxH h0 h bd bm ro base b4 b5 b11 L0 v0 rev comp R w xs rw_) (gv0 : Grows 8 0 h0 v0 L0.length (L0.flatMap Rec.cs)) (hbm : bm < h0.nx) (hne : ∀ c, blkOf v0 = some c → c ≠ bm) (hr : rev ≤ 1000000) (hz : L0.length + R.length ≤ 1000000)
  (tm : T AV) (t0 : tm.get 0 = some (.ptr bm 0)) (t4 : tm.get 4 = some (.ptr b4 0)) (t5 : tm.get 5 = some (.ptr b5 0)) (t7 : tm.get 7 = some (.bool tk)) (Q : AV → H → Prop)
  (hQ : ∀ v h' v1, TxPost h0 h' bm L0 rev comp 0 tk (xs.map (·.1)) R v xs rw_ v1 v0 → Q v h') :
  codeW P 20 121 none (codeI (bodyC Try.f20) [1, 1, 1, 1, 1, 1, 1, 1, 1, 1, 1]) [] tm h (retK P Try.f20 Q) := by
 have g0 := hh.oo.1.1
 have g1 := hh.l0
 have g4 := hh.l4
 have g5 := hh.l5
 have g11 := hh.l11
 have gb := hh.lb
 have gd2 := hh.d.l2
 have gd3 := hh.d.l3
 have gd4 := hh.d.l4
 have hwb : ∀ c, blkOf w = some c → base ≤ c ∧ c < h.nx := fun c e => hh.d.gr.base e
 obtain ⟨a0, a1, a2, a3, a4, a5, a6, a7, a8⟩ := hh.a.u9
 have w4 := hh.w4
 have gro := hh.gr.one
 have wo := hh.d.gr.one
 have hlen := hh.d.gr.slice.len (P := P) u45a
 obtain ⟨h1, h1e⟩ : ∃ h1, h1 = h.sts b4 3 [.bool tk] := ⟨_, rfl⟩
 have A1 : CellsAt h1 b4 0 (ansC 0 0 0 tk rw_) := by
  have := hh.a.put w4 (j := 3) (by simp [ansC]) (.bool tk)
  rw [Nat.zero_add, ← h1e] at this
  exact this
 have w41 : wrAt h1 b4 = true:= by rw [h1e, wrAt_sts]; exact w4
 have o1 : Og h h1 [b4]:= by rw [h1e]; exact (Og.refl _ _).sts (.inl (by simp))
 have oo1 : Og h0 h1 []:= by rw [h1e]; exact hh.oo.sts (.inr g1)
 have x1 : h1.nx = h.nx:= by rw [h1e, nx_sts]
 have k1 : ∀ c, c ≠ b4 → h1.t.get c = h.t.get c := fun c hc => by rw [h1e, get_sts _ _ _ _ hc]
 have k5 : cellAt h1 b5 0 = some (.ptr bd 0):= by rw [cellAt_of_get (k1 b5 (by omega))]; exact hh.k5
 have d2 : cellAt h1 bd 2 = some w:= by rw [cellAt_of_get (k1 bd (by omega))]; exact hh.d.c2
 obtain ⟨b0, b1, b2, b3, b4', b5', b6, b7, b8⟩ := A1.u9
 have rok : RowOk h rw_ xs := ⟨hh.gr.slice, fun x hx => ⟨(hh.ok x hx).ks, (hh.ok x hx).ps⟩⟩
 have rb1 : ∀ c, blkOf rw_ = some c → base ≤ c := fun c e => (hh.gr.base e).1
 have rb2 : ∀ x, x ∈ xs → (∀ c, blkOf x.2.1 = some c → base ≤ c) ∧ (∀ c, blkOf x.2.2 = some c → base ≤ c) := fun x hx => ⟨fun c e => ((hh.ok x hx).kb c e).1, fun c e => ((hh.ok x hx).pb c e).1⟩
 have md1 : MdAt h1 bm L0 rev comp v0 := hh.d.md.keep (by omega) (k1 bm (by omega)) (fun c e => k1 c (by have := hh.d.nv c e; have := (gv0.base e).2; omega))
 have gv1 : Grows 8 0 h1 v0 L0.length (L0.flatMap Rec.cs) := gv0.of_get oo1.1.1 (fun c e => oo1.1.2 c (gv0.base e).2 (by simp))
 cases hR : R with
 | nil =>
  subst hR
  have d1 : decide (0 < ([] : List Rec).length) = false := rfl
  obtain ⟨h2, h2e⟩ : ∃ h2, h2 = h1.sts b4 0 (ansC 0 0 0 tk rw_) := ⟨_, rfl⟩
  have A2 : CellsAt h2 b4 0 (ansC 0 0 0 tk rw_):= by rw [h2e]; exact CellsAt.sts w41 _
  obtain ⟨e0, e1, e2, e3, e4, e5, e6, e7, e8⟩ := A2.u9
  have k2 : ∀ c, c ≠ b4 → h2.t.get c = h1.t.get c := fun c hc => by rw [h2e, get_sts _ _ _ _ hc]
  have x2 : h2.nx = h1.nx:= by rw [h2e, nx_sts]
  have oo2 : Og h0 h2 []:= by rw [h2e]; exact oo1.sts (.inr g1)
  unfold ansC at h2e
  refine rN ?_ (V t0<|V t4<|V t5<|V t7<|V a3<|V w4<|V h1e.symm<|V k5<|V d2<|V wo<|V hlen<|V d1<|V b0<|V b1<|V b2<|V b3<|V b4'<|V b5'<|V b6<|V b7<|V b8<|V w41<|V gro<|V h2e.symm<|V e0<|V e1<|V e2<|V e3<|V e4<|V e5<|V e6<|V e7<|e8)
  have rok2 := rok.move (h' := h2) (lo := base) (by omega) (fun c hc hc2 => by rw [k2 c (by omega), k1 c (by omega)]) rb1 rb2
  refine hQ _ _ v0 ⟨rfl, rfl, rok2.gr, rok2.ok, ?_, ?_, ⟨⟨by omega, fun c hc _ => oo2.1.2 c hc (by simp)⟩, oo2.2⟩, hne, fun c e => by have := rb1 c e; omega, fun x hx => ⟨fun c e => by have := (rb2 x hx).1 c e; omega, fun c e => by have := (rb2 x hx).2 c e; omega⟩, fun c e => .inl e⟩
  ·rw [List.append_nil, if_pos rfl]
   exact md1.keep (by omega) (k2 bm (by omega)) (fun c e => k2 c (by have := (gv0.base e).2; omega))
  ·rw [List.append_nil]
   exact gv1.of_get (by omega) (fun c e => k2 c (by have := (gv0.base e).2; omega))
 | cons r0 R0 =>
  have hRl : 0 < R.length:= by rw [hR]; simp
  have hRn : R ≠ []:= by rw [hR]; simp
  have d1 : decide (0 < R.length) = true := decide_eq_true hRl
  have m0 := md1.c0
  have vo := gv1.one
  repeat' (first | ((with_reducible refine st1 ?_); (conv => whnf); (with_reducible refine ⟨?_⟩)) | ((with_reducible refine st_dp ord20_0 ?_ rfl rfl ?_); exact rfl; (conv => arg 4; whnf); (conv => arg 3; whnf)) | ((with_reducible refine st_dw ?_ rfl rfl ?_ ?_); exact rfl; kernel_rfl; (conv => arg 5; whnf); (conv => arg 3; whnf)) | ((with_reducible refine retW_intro rfl ?_); (conv => arg 2; whnf)) | ((with_reducible first | refine iB ?_ ?_ | refine gWt ?_ ?_ | refine gWf ?_ ?_ | refine gXt ?_ ?_ | refine gXf ?_ ?_) <;> intro hb <;> (try simp only [hb])) | ((with_reducible show drawP _ _ _ _ _ _ _ _ _); first | ((with_reducible apply kP_rd); exact rfl; exact rfl) | ((with_reducible apply kP_rg); exact rfl; exact rfl; exact rfl) | ((with_reducible apply kP_cv); exact rfl; exact rfl; kernel_rfl) | ((with_reducible apply kP_al); exact rfl; exact rfl; exact rfl) | ((with_reducible apply kP_fl); exact rfl; exact rfl; exact rfl) | ((with_reducible apply kP_ex); exact rfl; exact rfl; kernel_rfl; exact rfl) | ((with_reducible apply kP_eg); exact rfl; exact rfl; kernel_rfl; exact rfl) | ((with_reducible refine kP_nl ?_ ?_))) | ((with_reducible show drawI _ _ _ _ _ _ _ _ _); first | ((with_reducible refine kI_rd ?_ ?_); exact rfl) | ((with_reducible apply kI_rg); exact rfl; exact rfl) | ((with_reducible refine kI_cv ?_ ?_ ?_); exact rfl; kernel_rfl) | ((with_reducible apply kI_al); exact rfl; exact rfl) | ((with_reducible refine kI_ex ?_ ?_ ?_ ?_ ?_); exact rfl; kernel_rfl; exact rfl) | ((with_reducible apply kI_eg); exact rfl; kernel_rfl; exact rfl) | ((with_reducible refine kI_nl ?_ ?_))) | ((with_reducible show eOk _ _ _ _ _ _); first | (exact eok_nil) | (refine ke_rd ?_ ?_ ?_; exact rfl) | (apply ke_rg; exact rfl; exact rfl) | (refine ke_cv ?_ ?_ ?_ ?_; exact rfl; kernel_rfl) | (apply ke_fl; exact rfl) | (apply ke_al; exact rfl; exact rfl)) | ((with_reducible refine freshIs_new ?_); kernel_rfl) | (simp only [B, xB, F, reduceLT, reduceLeDiff, reduceEqDiff, reduceAdd, reduceMul, reduceSub, ↓reduceIte, eq_self, t0, t4, t5, t7, a3, w4, ← h1e, k5, d2, wo, hlen, d1, m0, vo]))
  refine ((clipC h1 0 v0 _ _ gv1).call P).mono P ?_
  rintro u h1' ⟨he1, cl⟩
  rw [he1]
  have uo : u.one = true:= by rcases cl with ⟨-, -, rfl⟩ | ⟨b, -, rfl⟩ <;> rfl
  have gw1 : Grows 8 base h1 w _ _ := hh.d.gr.of_get (by omega) (fun c e => k1 c (by have := hwb c e; omega))
  repeat' (first | ((with_reducible refine st1 ?_); (conv => whnf); (with_reducible refine ⟨?_⟩)) | ((with_reducible refine st_dp ord20_0 ?_ rfl rfl ?_); exact rfl; (conv => arg 4; whnf); (conv => arg 3; whnf)) | ((with_reducible refine st_dw ?_ rfl rfl ?_ ?_); exact rfl; kernel_rfl; (conv => arg 5; whnf); (conv => arg 3; whnf)) | ((with_reducible refine retW_intro rfl ?_); (conv => arg 2; whnf)) | ((with_reducible first | refine iB ?_ ?_ | refine gWt ?_ ?_ | refine gWf ?_ ?_ | refine gXt ?_ ?_ | refine gXf ?_ ?_) <;> intro hb <;> (try simp only [hb])) | ((with_reducible show drawP _ _ _ _ _ _ _ _ _); first | ((with_reducible apply kP_rd); exact rfl; exact rfl) | ((with_reducible apply kP_rg); exact rfl; exact rfl; exact rfl) | ((with_reducible apply kP_cv); exact rfl; exact rfl; kernel_rfl) | ((with_reducible apply kP_al); exact rfl; exact rfl; exact rfl) | ((with_reducible apply kP_fl); exact rfl; exact rfl; exact rfl) | ((with_reducible apply kP_ex); exact rfl; exact rfl; kernel_rfl; exact rfl) | ((with_reducible apply kP_eg); exact rfl; exact rfl; kernel_rfl; exact rfl) | ((with_reducible refine kP_nl ?_ ?_))) | ((with_reducible show drawI _ _ _ _ _ _ _ _ _); first | ((with_reducible refine kI_rd ?_ ?_); exact rfl) | ((with_reducible apply kI_rg); exact rfl; exact rfl) | ((with_reducible refine kI_cv ?_ ?_ ?_); exact rfl; kernel_rfl) | ((with_reducible apply kI_al); exact rfl; exact rfl) | ((with_reducible refine kI_ex ?_ ?_ ?_ ?_ ?_); exact rfl; kernel_rfl; exact rfl) | ((with_reducible apply kI_eg); exact rfl; kernel_rfl; exact rfl) | ((with_reducible refine kI_nl ?_ ?_))) | ((with_reducible show eOk _ _ _ _ _ _); first | (exact eok_nil) | (refine ke_rd ?_ ?_ ?_; exact rfl) | (apply ke_rg; exact rfl; exact rfl) | (refine ke_cv ?_ ?_ ?_ ?_; exact rfl; kernel_rfl) | (apply ke_fl; exact rfl) | (apply ke_al; exact rfl; exact rfl)) | ((with_reducible refine freshIs_new ?_); kernel_rfl) | (simp only [B, xB, F, reduceLT, reduceLeDiff, reduceEqDiff, reduceAdd, reduceMul, reduceSub, ↓reduceIte, eq_self, t0, t4, t5, k5, d2, wo, uo, m0, vo]))
  refine commitV cl gv1 gw1 hRl hz (fun v1 h2 g2 o2 => ?_)
  have x2 := o2.1.1
  have v1o := g2.one
  have v1c := g2.cells
  have wm := md1.wr
  have m0' := kc m0 o2 md1.lt (by simp)
  have wm' := kw wm o2 md1.lt (by simp)
  have m1' := kc md1.c1 o2 md1.lt (by simp)
  have m2' := kc md1.c2 o2 md1.lt (by simp)
  have k5' := kc k5 o2 (by omega) (by simp)
  have d2' := kc d2 o2 (by omega) (by simp)
  have M : CellsAt h2 bm 0 [v0, .int .u64 (.ofNat rev), .int .u64 (.ofNat comp)] := .m3 m0' m1' m2'
  obtain ⟨h3, h3e⟩ : ∃ h3, h3 = h2.sts bm 0 [v1] := ⟨_, rfl⟩
  have M3 := M.put wm' (j := 0) (by simp) v1
  rw [Nat.zero_add, ← h3e] at M3
  have wm3 : wrAt h3 bm = true:= by rw [h3e, wrAt_sts]; exact wm'
  obtain ⟨p0, p1, p2⟩ := CellsAt.u3 (show CellsAt h3 bm 0 [v1, .int .u64 (.ofNat rev), .int .u64 (.ofNat comp)] from M3)
  obtain ⟨h4, h4e⟩ : ∃ h4, h4 = h3.sts bm 1 [.int .u64 (.ofNat (rev + 1))] := ⟨_, rfl⟩
  have M4 := M3.put wm3 (j := 1) (by simp) (.int .u64 (.ofNat (rev + 1)))
  rw [Nat.zero_add, ← h4e] at M4
  obtain ⟨r0', r1', r2'⟩ := CellsAt.u3 (show CellsAt h4 bm 0 [v1, .int .u64 (.ofNat (rev + 1)), .int .u64 (.ofNat comp)] from M4)
  have wm4 : wrAt h4 bm = true:= by rw [h4e, wrAt_sts]; exact wm3
  have wr1 : wrapF .u64 (Int.ofNat rev + Int.ofNat 1) = Int.ofNat (rev + 1) := u64_add (by omega)
  have k4 : ∀ c, c ≠ bm → h4.t.get c = h2.t.get c := fun c hc => by rw [h4e, get_sts _ _ _ _ hc, h3e, get_sts _ _ _ _ hc]
  have x4 : h4.nx = h2.nx:= by rw [h4e, nx_sts, h3e, nx_sts]
  have A4 : CellsAt h4 b4 0 (ansC 0 0 0 tk rw_) := (gC A1 o2 (by omega) (by simp)).of_get (k4 b4 (by omega))
  have w44 : wrAt h4 b4 = true:= by rw [wrAt_of_get (k4 b4 (by omega))]; exact kw w41 o2 (by omega) (by simp)
  obtain ⟨e0, e1, e2, e3, e4, e5, e6, e7, e8⟩ := A4.u9
  obtain ⟨h5, h5e⟩ : ∃ h5, h5 = h4.sts b4 0 (ansC 0 0 0 tk rw_) := ⟨_, rfl⟩
  have A5 : CellsAt h5 b4 0 (ansC 0 0 0 tk rw_):= by rw [h5e]; exact CellsAt.sts w44 _
  obtain ⟨s0, s1, s2, s3, s4, s5, s6, s7, s8⟩ := A5.u9
  have k5'' : ∀ c, c ≠ b4 → h5.t.get c = h4.t.get c := fun c hc => by rw [h5e, get_sts _ _ _ _ hc]
  have x5 : h5.nx = h4.nx:= by rw [h5e, nx_sts]
  unfold ansC at h5e
  repeat' (first | ((with_reducible refine st1 ?_); (conv => whnf); (with_reducible refine ⟨?_⟩)) | ((with_reducible refine st_dp ord20_0 ?_ rfl rfl ?_); exact rfl; (conv => arg 4; whnf); (conv => arg 3; whnf)) | ((with_reducible refine st_dw ?_ rfl rfl ?_ ?_); exact rfl; kernel_rfl; (conv => arg 5; whnf); (conv => arg 3; whnf)) | ((with_reducible refine retW_intro rfl ?_); (conv => arg 2; whnf)) | ((with_reducible first | refine iB ?_ ?_ | refine gWt ?_ ?_ | refine gWf ?_ ?_ | refine gXt ?_ ?_ | refine gXf ?_ ?_) <;> intro hb <;> (try simp only [hb])) | ((with_reducible show drawP _ _ _ _ _ _ _ _ _); first | ((with_reducible apply kP_rd); exact rfl; exact rfl) | ((with_reducible apply kP_rg); exact rfl; exact rfl; exact rfl) | ((with_reducible apply kP_cv); exact rfl; exact rfl; kernel_rfl) | ((with_reducible apply kP_al); exact rfl; exact rfl; exact rfl) | ((with_reducible apply kP_fl); exact rfl; exact rfl; exact rfl) | ((with_reducible apply kP_ex); exact rfl; exact rfl; kernel_rfl; exact rfl) | ((with_reducible apply kP_eg); exact rfl; exact rfl; kernel_rfl; exact rfl) | ((with_reducible refine kP_nl ?_ ?_))) | ((with_reducible show drawI _ _ _ _ _ _ _ _ _); first | ((with_reducible refine kI_rd ?_ ?_); exact rfl) | ((with_reducible apply kI_rg); exact rfl; exact rfl) | ((with_reducible refine kI_cv ?_ ?_ ?_); exact rfl; kernel_rfl) | ((with_reducible apply kI_al); exact rfl; exact rfl) | ((with_reducible refine kI_ex ?_ ?_ ?_ ?_ ?_); exact rfl; kernel_rfl; exact rfl) | ((with_reducible apply kI_eg); exact rfl; kernel_rfl; exact rfl) | ((with_reducible refine kI_nl ?_ ?_))) | ((with_reducible show eOk _ _ _ _ _ _); first | (exact eok_nil) | (refine ke_rd ?_ ?_ ?_; exact rfl) | (apply ke_rg; exact rfl; exact rfl) | (refine ke_cv ?_ ?_ ?_ ?_; exact rfl; kernel_rfl) | (apply ke_fl; exact rfl) | (apply ke_al; exact rfl; exact rfl)) | ((with_reducible refine freshIs_new ?_); kernel_rfl) | (simp only [B, xB, F, reduceLT, reduceLeDiff, reduceEqDiff, reduceAdd, reduceMul, reduceSub, ↓reduceIte, eq_self, t0, t4, t5, k5, k5', d2', wo, uo, vo, v1o, v1c, m0', wm', ← h3e, p0, p1, p2, wm3, wr1, ← h4e, e0, e1, e2, e3, e4, e5, e6, e7, e8, w44, gro, ← h5e, s0, s1, s2, s3, s4, s5, s6, s7, s8]))
  have kk : ∀ c, c < h.nx → c ≠ b4 → c ≠ bm → h5.t.get c = h.t.get c := fun c hc n1 n2 => by rw [k5'' c n1, k4 c n2, o2.1.2 c (by omega) (by simp), k1 c n1]
  have rok5 := rok.move (h' := h5) (lo := base) (by omega) (fun c hc hc2 => kk c hc2 (by omega) (by omega)) rb1 rb2
  have M5 : CellsAt h5 bm 0 [v1, .int .u64 (.ofNat (rev + 1)), .int .u64 (.ofNat comp)] := (CellsAt.m3 r0' r1' r2').of_get (k5'' bm (by omega))
  obtain ⟨y0, y1, y2⟩ := M5.u3
  have g5' : Grows 8 0 h5 v1 (L0 ++ R).length ((L0 ++ R).flatMap Rec.cs) := by
   rw [List.length_append, List.flatMap_append]
   exact (g2.of_get (by omega) (fun c e => by have := (g2.base e).1; rw [k5'' c (by omega), k4 c (by omega)])).wk (Nat.zero_le _)
  refine hQ _ _ v1 ⟨rfl, rfl, rok5.gr, rok5.ok, ?_, g5', ⟨⟨by omega, fun c hc hn => ?_⟩, ?_⟩, fun c e => by have := (g2.base e).1; omega, fun c e => by have := rb1 c e; omega, fun x hx => ⟨fun c e => by have := (rb2 x hx).1 c e; omega, fun c e => by have := (rb2 x hx).2 c e; omega⟩, fun c e => .inr (by have := (g2.base e).1; omega)⟩
  ·rw [if_neg hRn]
   exact ⟨by omega, y0, y1, y2, by rw [wrAt_of_get (k5'' bm (by omega))]; exact wm4, g5'.slice⟩
  ·rw [kk c (by omega) (by omega) (by simpa using hn)]; exact hh.oo.1.2 c hc (by simp)
  ·rw [h5e, g_sts, h4e, g_sts, h3e, g_sts, o2.2, o1.2, hh.oo.2]
end
end Go.Proofs.Ytnedigoajoflaaa.M

namespace Go.Proofs.Ytnedigoajoflaaa.M
open Go Go.AX
noncomputable section
set_option maxRecDepth 100000
def twB (l : List Op) : Bool := l.any fun o => (putsV l).any (badB o)
theorem twB_iff (l : List Op) : twB l = true ↔ TwP l := by
 unfold twB TwP
 rw [List.any_eq_true]
 constructor
 ·rintro ⟨o, ho, h⟩
  obtain ⟨p, hp, hb⟩ := List.any_eq_true.1 h
  exact ⟨o, ho, p, hp, hb⟩
 ·rintro ⟨o, ho, p, hp, hb⟩
  exact ⟨o, ho, List.any_eq_true.2 ⟨p, hp, hb⟩⟩
structure Tx where
 err : Nat
 tk : Bool
 rs : List Res
 R : List Rec
def brV (r : Rq) (tk : Bool) : List Op := if tk then r.th else r.el
def tkB (rev : Nat) (L0 : List Rec) (r : Rq) : Bool := !r.cmps.any (failsB (atV rev L0))
def txnS (rev comp : Nat) (L0 : List Rec) (r : Rq) : Tx :=
 if checkR r = 0 then
  if twB (brV r (tkB rev L0 r)) then ⟨12, false, [], []⟩
  else if firstW rev comp (brV r (tkB rev L0 r)) = 0 then ⟨0, tkB rev L0 r, (opsS rev L0 (brV r (tkB rev L0 r))).1, (opsS rev L0 (brV r (tkB rev L0 r))).2⟩
  else ⟨firstW rev comp (brV r (tkB rev L0 r)), false, [], []⟩
 else ⟨checkR r, false, [], []⟩
theorem mayB_kind {o : Op} (h : mayB o = true) : ∃ kd : Nat, o.kind = Int.ofNat kd ∧ kd < 3 := by
 unfold mayB kindB at h
 by_cases q0 : o.kind == .ofNat 0
 ·exact ⟨0, by simpa using q0, by omega⟩
 ·by_cases q1 : o.kind == .ofNat 1
  ·exact ⟨1, by simpa using q1, by omega⟩
  ·by_cases q2 : o.kind == .ofNat 2
   ·exact ⟨2, by simpa using q2, by omega⟩
   ·rw [if_neg q0, if_neg q1, if_neg q2] at h
    simp at h
theorem checkR_kind {r : Rq} (h : checkR r = 0) (tk : Bool) : ∀ op, op ∈ brV r tk → ∃ kd : Nat, op.kind = Int.ofNat kd ∧ kd < 3 := by
 unfold checkR at h
 split at h
 ·rename_i q
  intro op ho
  unfold brV at ho
  split at ho
  ·exact mayB_kind (List.all_eq_true.1 q.2.2.2.2.1 op ho)
  ·exact mayB_kind (List.all_eq_true.1 q.2.2.2.2.2 op ho)
 ·cases h
theorem atV_all {m n : Nat} : ∀ (L : List Rec) (W : View), (∀ x, x ∈ L → x.main ≤ m ∧ x.main ≤ n) → L.foldl (fun W r => if r.main ≤ m then layV W r else W) W = L.foldl (fun W r => if r.main ≤ n then layV W r else W) W
 | [], _, _ => rfl
 | r :: L, W, h => by
  have := h r (by simp)
  rw [List.foldl_cons, List.foldl_cons, if_pos this.1, if_pos this.2]
  exact atV_all L _ fun x hx => h x (by simp [hx])
theorem atV_up {rev : Nat} {L : List Rec} (h : ∀ x, x ∈ L → x.main ≤ rev) : atV rev L = atV (rev + 1) L := atV_all L [] fun x hx => ⟨h x hx, by have := h x hx; omega⟩
theorem rqAll (h : H) (r : Rq) (vc vt ve : AV) (oc : vc.one = true) (ot : vt.one = true) (oe : ve.one = true) : boxR h 31 (r.cs vc vt ve) = .val (.ptr h.nx 0) (h.newCells 31 (r.cs vc vt ve)) := boxR_ok (by unfold Rq.cs; simp only [allOne_cons, allOne_nil, oc, ot, oe, one_int, one_bool, Bool.and_self, Bool.true_and])
theorem ansNew (h : H) : ∃ h1, h.newCells 38 [.int .i64 (.ofNat 0), .int .u64 (.ofNat 0), .int .u64 (.ofNat 0), .bool false, .nilslice, .int .u32 (.ofNat 0), .int .u64 (.ofNat 0), .int .u64 (.ofNat 0), .int .i64 (.ofNat 0)] = h1 ∧ Og h h1 [] ∧ h1.nx = h.nx + 1 ∧ wrAt h1 h.nx = true ∧ CellsAt h1 h.nx 0 (ansC 0 0 0 false .nilslice) :=
 ⟨_, rfl, (Og.refl _ _).new _ _, rfl, wr_new _ _ _, CellsAt.new _ _ _⟩
theorem TxPost.bad {h0 h' : H} {bm rev comp b4 err : Nat} {L0 : List Rec} {v0 : AV} (md : MdAt h0 bm L0 rev comp v0) (gv : Grows 8 0 h0 v0 L0.length (L0.flatMap Rec.cs)) (hne : ∀ c, blkOf v0 = some c → c ≠ bm) (o : Og h0 h' []) :
  TxPost h0 h' bm L0 rev comp err false [] [] (.agg (ansC err 0 0 false .nilslice)) [] .nilslice v0 v0 := by
 have k : ∀ c, c < h0.nx → h'.t.get c = h0.t.get c := fun c hc => o.1.2 c hc (by simp)
 exact ⟨rfl, rfl, .none, fun x hx => (by cases hx), by rw [List.append_nil, if_pos rfl]; exact md.keep o.1.1 (k bm md.lt) (fun c e => k c (gv.base e).2), by rw [List.append_nil]; exact gv.of_get o.1.1 (fun c e => k c (gv.base e).2), ⟨⟨o.1.1, fun c hc _ => k c hc⟩, o.2⟩, hne, fun c e => (by cases e), fun x hx => (by cases hx), fun c e => .inl e⟩
set_option maxHeartbeats 8000000 in
theorem txnC (h0 : H) (bm : Nat) (L0 : List Rec) (rev comp : Nat) (v0 : AV) (md : MdAt h0 bm L0 rev comp v0) (gv : Grows 8 0 h0 v0 L0.length (L0.flatMap Rec.cs)) (hne : ∀ c, blkOf v0 = some c → c ≠ bm) (r : Rq) (vc vt ve : AV) (ra : RqAt h0 r vc vt ve)
    (hm : ∀ x, x ∈ L0 → x.main ≤ rev) (hr : rev ≤ 1000000) (hs : Short L0) (hzL : L0.length ≤ 200000)
    (hB : ∀ tk i, i ≤ (brV r tk).length → Short (opsS rev L0 ((brV r tk).take i)).2 ∧ (opsS rev L0 ((brV r tk).take i)).2.length ≤ 200000) :
    PushC P (.enter 20 [.ptr bm 0, .agg (r.cs vc vt ve)] h0) fun v h' => ∃ xs rw_ v1, TxPost h0 h' bm L0 rev comp (txnS rev comp L0 r).err (txnS rev comp L0 r).tk (txnS rev comp L0 r).rs (txnS rev comp L0 r).R v xs rw_ v1 v0 := by
  have oc := sl_one ra.sc
  have ot := sl_one ra.st
  have oe := sl_one ra.se
  have lbm := md.lt
  obtain ⟨h1, h1e⟩ : ∃ h1, h1 = h0.newCells 31 (r.cs vc vt ve) := ⟨_, rfl⟩
  have bx := rqAll h0 r vc vt ve oc ot oe
  rw [← h1e] at bx
  have o1 : Og h0 h1 []:= by rw [h1e]; exact (Og.refl _ _).new _ _
  have x1 : h1.nx = h0.nx + 1:= by rw [h1e]; rfl
  have Y1 : CellsAt h1 h0.nx 0 (r.cs vc vt ve):= by rw [h1e]; exact CellsAt.new _ _ _
  obtain ⟨h2, h2e, o2, x2, w42, A2⟩ := ansNew h1
  have o12 := o1.t o2
  have Y2 := gC Y1 o2 (by omega) (by simp)
  obtain ⟨y0, y1, y2, y3, y4, y5, y6, y7⟩ := Y2.u8
  refine pushC_of_codeW (fn := Try.f20) (c := bodyC Try.f20) Try.func20 rfl ?_
  show codeW P 20 121 none _ _ _ _ _
  refine codeW_root ?_
  refine rN ?_ (V bx<|V h2e<|V y0<|V y1<|V y2<|V y3<|V y4<|V y5<|V y6<|y7)
  refine ((sCheckC h2 r vc vt ve (ra.keep o12)).call P).mono P ?_
  rintro _ h3 ⟨rfl, o3⟩
  have x3 := o3.1.1
  have Y3 := gC Y2 o3 (by omega) (by simp)
  have A3 := gC A2 o3 (by omega) (by simp)
  have w43 := kw w42 o3 (by omega) (by simp)
  obtain ⟨a0, a1, a2, a3, a4, a5, a6, a7, a8⟩ := A3.u9
  obtain ⟨e, he⟩ : ∃ e, e = checkR r := ⟨_, rfl⟩
  obtain ⟨h4, h4e⟩ : ∃ h4, h4 = h3.sts h1.nx 0 [.int .i64 (.ofNat e)] := ⟨_, rfl⟩
  have A4 : CellsAt h4 h1.nx 0 (ansC e 0 0 false .nilslice) := by
    have := A3.put w43 (j := 0) (by simp [ansC]) (.int .i64 (.ofNat e))
    rw [Nat.zero_add, ← h4e] at this
    exact this
  have w44 : wrAt h4 h1.nx = true:= by rw [h4e, wrAt_sts]; exact w43
  have o04 : Og h0 h4 []:= by rw [h4e]; exact (o12.t o3).sts (.inr (by omega))
  have x4 : h4.nx = h3.nx:= by rw [h4e, nx_sts]
  have k4 : ∀ c, c ≠ h1.nx → h4.t.get c = h3.t.get c := fun c hc => by rw [h4e, get_sts _ _ _ _ hc]
  obtain ⟨b0, b1, b2, b3, b4, b5, b6, b7, b8⟩ := A4.u9
  have Y4 : CellsAt h4 h0.nx 0 (r.cs vc vt ve) := Y3.of_get (k4 _ (by omega))
  rw [← he]
  by_cases qe : e = 0
  · have de : decide (e = 0) = true := decide_eq_true qe
    subst qe
    have hck : checkR r = 0 := he.symm
    have m4 := md.keep o04.1.1 (o04.1.2 bm lbm (by simp)) (fun c e => o04.1.2 c (gv.base e).2 (by simp))
    have m41 := m4.c1
    have hv0 : ∀ c, blkOf v0 = some c → c < h0.nx := fun c e => (gv.base e).2
    refine rN ?_ (V a0<|V w43<|V h4e.symm<|V b0<|V de<|V @Bool.not_true<|m41)
    refine ((atC h4 bm rev L0 v0 m4.lt m4.c0 m4.sl (by omega) (fun c e => by have := hv0 c e; omega)).call P).mono P ?_
    rintro _ h5 ⟨ro, rfl, hro, o5, m5⟩
    have x5 := o5.1.1
    have hro5 := m5.lt
    obtain ⟨h6, h6e⟩ : ∃ h6, h6 = h5.newCells 100 [.ptr bm 0, .map ro, .nilslice] := ⟨_, rfl⟩
    have o6 : Og h5 h6 []:= by rw [h6e]; exact (Og.refl _ _).new _ _
    have x6 : h6.nx = h5.nx + 1:= by rw [h6e]; rfl
    have D6 : CellsAt h6 h5.nx 0 [.ptr bm 0, .map ro, .nilslice]:= by rw [h6e]; exact CellsAt.new _ _ _
    have wd6 : wrAt h6 h5.nx = true:= by rw [h6e]; exact wr_new _ _ _
    obtain ⟨h7, h7e⟩ : ∃ h7, h7 = (h6.newCells 98 [.nilptr]).sts h6.nx 0 [.ptr h5.nx 0] := ⟨_, rfl⟩
    have o7 : Og h6 h7 []:= by rw [h7e]; exact ((Og.refl _ _).new _ _).sts (.inr (Nat.le_refl _))
    have x7 : h7.nx = h6.nx + 1:= by rw [h7e, nx_sts, nx_new]
    have F7 : CellsAt h7 h6.nx 0 [.ptr h5.nx 0]:= by rw [h7e]; exact CellsAt.box _ _ _ _
    have k5 := F7.u1
    have o67 := o6.t o7
    have o57 := o5.t o67
    have o07 := o04.t o57
    have D7 := gC D6 o7 (by omega) (by simp)
    have wd7 := kw wd6 o7 (by omega) (by simp)
    obtain ⟨d0, d1, d2⟩ := D7.u3
    have m7 : MapK encS h7 ro (mR (atV rev L0)) := m5.keep o67.1 (by simp)
    have A7 := gC A4 o57 (by omega) (by simp)
    have w47 := kw w44 o57 (by omega) (by simp)
    have Y7 := gC Y4 o57 (by omega) (by simp)
    obtain ⟨z0, z1, z2, z3, z4, z5, z6, z7⟩ := Y7.u8
    have ra7 := ra.keep o07
    refine rN ?_ (V m41<|V h6e.symm<|V h7e.symm<|V z0<|V z1<|V z2<|V z3<|V z4<|V z5<|V z6<|V z7<|V oc<|V ot<|oe)
    refine ((cixA h7 vc (.func 36 [] [.ptr h6.nx 0]) r.cmps (failsB (atV rev L0)) ra7.sc ra7.zc 36 [] [.ptr h6.nx 0] rfl (fun args h => callV_func 36 (by kernel_rfl) [] _ args) (fun x h _ o => ?_)).call P).mono P ?_
    · exact failsC h h6.nx h5.nx ro (atV rev L0) x (kc k5 o (by omega) (by simp)) (kc d1 o (by omega) (by simp)) (m7.keep o.1 (by simp)) (by have := o.1.1; omega) (by have := o.1.1; omega)
    rintro _ h8 ⟨rfl, o8⟩
    have x8 := o8.1.1
    have o08 := o07.t o8
    have o58 := o57.t o8
    obtain ⟨tk, htk⟩ : ∃ tk, tk = tkB rev L0 r := ⟨_, rfl⟩
    have htk2 : (!r.cmps.any (failsB (atV rev L0))) = tk := htk.symm
    have Y8 := gC Y7 o8 (by omega) (by simp)
    obtain ⟨z0', z1', z2', z3', z4', z5', z6', z7'⟩ := Y8.u8
    have ra8 := ra.keep o08
    have A8 := gC A7 o8 (by omega) (by simp)
    have w48 := kw w47 o8 (by omega) (by simp)
    obtain ⟨p0, p1, p2, p3, p4, p5, p6, p7, p8⟩ := A8.u9
    have k58 := kc k5 o8 (by omega) (by simp)
    obtain ⟨va, hva, sva, zva, ova⟩ : ∃ va, va = (if tk then vt else ve) ∧ SliceAt h8 va (brV r tk).length ((brV r tk).flatMap Op.cs) ∧ (brV r tk).length ≤ 1000000 ∧ va.one = true := by
      refine ⟨_, rfl, ?_⟩
      unfold brV
      cases tk
      · exact ⟨ra8.se, ra8.ze, oe⟩
      · exact ⟨ra8.st, ra8.zt, ot⟩
    have hvab : ∀ c, blkOf va = some c → c < h0.nx := fun c e => by
      rw [hva] at e
      cases tk
      · exact sl_lt ra.se c e
      · exact sl_lt ra.st c e
    -- behind the choice of the branch
    have rest : ∀ tm : T AV, tm.get 0 = some (.ptr bm 0) → tm.get 4 = some (.ptr h1.nx 0) → tm.get 5 = some (.ptr h6.nx 0) → tm.get 7 = some (.bool tk) → tm.get 8 = some va →
        codeW P 20 121 none (codeI (bodyC Try.f20) [1, 1, 1, 1, 1, 1, 1]) [] tm h8 (retK P Try.f20 fun v h' => ∃ xs rw_ v1, TxPost h0 h' bm L0 rev comp (txnS rev comp L0 r).err (txnS rev comp L0 r).tk (txnS rev comp L0 r).rs (txnS rev comp L0 r).R v xs rw_ v1 v0) := by
      intro tm t0 t4 t5 t7 t8
      refine rN ?_ (V t0<|V t4<|V t5<|V t7<|t8)
      refine ((twiceC h8 va (brV r tk) sva zva).call P).mono P ?_
      rintro _ h9 ⟨b, ⟨rfl, o9⟩, hb⟩
      have x9 := o9.1.1
      have ebt : b = twB (brV r tk):= by rw [Bool.eq_iff_iff, hb, twB_iff]
      have A9 := gC A8 o9 (by omega) (by simp)
      have w49 := kw w48 o9 (by omega) (by simp)
      obtain ⟨s0, s1, s2, s3, s4, s5, s6, s7, s8⟩ := A9.u9
      have o09 := o08.t o9
      cases b with
      | true =>
        have et : txnS rev comp L0 r = ⟨12, false, [], []⟩:= by unfold txnS; rw [if_pos hck, ← htk, ← ebt]; rfl
        rw [et]
        obtain ⟨hA, hAe⟩ : ∃ hA, hA = h9.sts h1.nx 0 [.int .i64 (.ofNat 12)] := ⟨_, rfl⟩
        have AA : CellsAt hA h1.nx 0 (ansC 12 0 0 false .nilslice) := by
          have := A9.put w49 (j := 0) (by simp [ansC]) (.int .i64 (.ofNat 12))
          rw [Nat.zero_add, ← hAe] at this
          exact this
        have wA : wrAt hA h1.nx = true:= by rw [hAe, wrAt_sts]; exact w49
        obtain ⟨u0, u1, u2, u3, u4, u5, u6, u7, u8⟩ := AA.u9
        obtain ⟨hB', hBe⟩ : ∃ hB', hB' = hA.sts h1.nx 0 (ansC 12 0 0 false .nilslice) := ⟨_, rfl⟩
        have AB : CellsAt hB' h1.nx 0 (ansC 12 0 0 false .nilslice):= by rw [hBe]; exact CellsAt.sts wA _
        obtain ⟨c0, c1, c2, c3, c4, c5, c6, c7, c8⟩ := AB.u9
        have o0B : Og h0 hB' []:= by rw [hBe, hAe]; exact (o09.sts (.inr (by omega))).sts (.inr (by omega))
        unfold ansC at hBe
        refine rN ?_ (V t4<|V s0<|V w49<|V hAe.symm<|V u0<|V u1<|V u2<|V u3<|V u4<|V u5<|V u6<|V u7<|V u8<|V wA<|V hBe.symm<|V c0<|V c1<|V c2<|V c3<|V c4<|V c5<|V c6<|V c7<|c8)
        exact ⟨[], .nilslice, v0, TxPost.bad (b4 := 0) md gv hne o0B⟩
      | false =>
        have m9 := md.keep o09.1.1 (o09.1.2 bm lbm (by simp)) (fun c e => o09.1.2 c (gv.base e).2 (by simp))
        repeat' (first | (with_reducible refine stopC [0, 1, 1, 1, 1, 1, 1, 1, 1] ?_) | ((with_reducible refine st1 ?_); (conv => whnf); (with_reducible refine ⟨?_⟩)) | ((with_reducible refine retW_intro rfl ?_); (conv => arg 2; whnf)) | ((with_reducible first | refine iB ?_ ?_ | refine gWt ?_ ?_ | refine gWf ?_ ?_) <;> intro hb <;> (try simp only [hb])) | (simp only [B, xB, F, reduceLT, reduceLeDiff, reduceEqDiff, reduceAdd, reduceMul, reduceSub, ↓reduceIte, eq_self]))
        refine ⟨?_⟩
        refine whenLoop h9 bm h1.nx h6.nx rev comp tk (brV r tk) va ⟨m9.c1, m9.c2, A9, w49, Og.refl _ _⟩ (SliceAt.only o9.1 sva (fun _ _ => by simp)) zva (by omega) (by omega) (fun c e => by have := hvab c e; omega) (by omega) _ (by exact sT) (by exact sT) (by exact sT) (by exact sT) (by exact sT) _ ?_ ?_
        · intro tm2 hA g4 oA AA hf
          clear t0 t4 t5 t7 t8
          have et : txnS rev comp L0 r = ⟨firstW rev comp (brV r tk), false, [], []⟩:= by unfold txnS; rw [if_pos hck, ← htk, ← ebt, if_neg (by simp), if_neg hf]
          rw [et]
          have o0A : Og h0 hA [] := ⟨⟨by have := oA.1.1; have := o09.1.1; omega, fun c hc _ => by rw [oA.1.2 c (by omega) (by simp; omega)]; exact o09.1.2 c hc (by simp)⟩, oA.2.trans o09.2⟩
          obtain ⟨u0, u1, u2, u3, u4, u5, u6, u7, u8⟩ := AA.u9
          refine rN ?_ (V g4<|V u0<|V u1<|V u2<|V u3<|V u4<|V u5<|V u6<|V u7<|u8)
          exact ⟨[], .nilslice, v0, TxPost.bad (b4 := 0) md gv hne o0A⟩
        · intro tm2 hA g0 g4 g5 g7 g8 tw hf
          clear t0 t4 t5 t7 t8
          have oA := tw.oo
          have xA := oA.1.1
          have hn1 : ∀ c, c < h9.nx → c ≠ h1.nx → hA.t.get c = h9.t.get c := fun c hc hn => oA.1.2 c hc (by simp [hn])
          have o0A : Og h0 hA [] := ⟨⟨by have := o09.1.1; omega, fun c hc _ => by rw [hn1 c (by omega) (by omega)]; exact o09.1.2 c hc (by simp)⟩, oA.2.trans o09.2⟩
          have k8A : ∀ c, c < h8.nx → c ≠ h1.nx → hA.t.get c = h8.t.get c := fun c hc hn => by rw [hn1 c (by omega) hn, o9.1.2 c hc (by simp)]
          have k7A : ∀ c, c < h7.nx → c ≠ h1.nx → hA.t.get c = h7.t.get c := fun c hc hn => by rw [k8A c (by omega) hn, o8.1.2 c hc (by simp)]
          have k5A : cellAt hA h6.nx 0 = some (.ptr h5.nx 0):= by rw [cellAt_of_get (k7A _ (by omega) (by omega))]; exact k5
          obtain ⟨l, hl⟩ : ∃ l, l = brV r tk := ⟨_, rfl⟩
          have svA : SliceAt h0 va l.length (l.flatMap Op.cs) := by
            rw [hl, hva]; unfold brV
            cases tk
            · exact ra.se
            · exact ra.st
          have hlenA := (svA.move (h' := hA) o0A.1.1 (fun c e => o0A.1.2 c (hvab c e) (by simp))).len (P := P) u29a
          obtain ⟨hC, hCe⟩ : ∃ hC, hC = (hA.newCells 108 [.nilFunc, .nilFunc, .nilFunc]).sts hA.nx 0 [.func 41 [.ptr h5.nx 0] [], .func 42 [.ptr h5.nx 0] [], .func 43 [.ptr h5.nx 0] []] := ⟨_, rfl⟩
          have oC : Og hA hC []:= by rw [hCe]; exact ((Og.refl _ _).new _ _).sts (.inr (Nat.le_refl _))
          have xC : hC.nx = hA.nx + 1:= by rw [hCe, nx_sts, nx_new]
          have FC : CellsAt hC hA.nx 0 [.func 41 [.ptr h5.nx 0] [], .func 42 [.ptr h5.nx 0] [], .func 43 [.ptr h5.nx 0] []]:= by rw [hCe]; exact CellsAt.box _ _ _ _
          have o0C := o0A.t oC
          have k7C : ∀ c, c < h7.nx → c ≠ h1.nx → hC.t.get c = h7.t.get c := fun c hc hn => by rw [oC.1.2 c (by omega) (by simp), k7A c hc hn]
          have mC := md.keep o0C.1.1 (o0C.1.2 bm lbm (by simp)) (fun c e => o0C.1.2 c (gv.base e).2 (by simp))
          have eqV : atV (rev + 1) (L0 ++ []) = atV rev L0:= by rw [List.append_nil, atV_up hm]
          have hTx : TxH h0 hC h5.nx bm ro hC.nx h1.nx h6.nx hA.nx L0 v0 rev comp [] .nilslice [] .nilslice :=
            ⟨⟨by rw [cellAt_of_get (k7C _ (by omega) (by omega))]; exact d0, by rw [cellAt_of_get (k7C _ (by omega) (by omega))]; exact d1, by rw [cellAt_of_get (k7C _ (by omega) (by omega))]; exact d2, by rw [wrAt_of_get (k7C _ (by omega) (by omega))]; exact wd7, mC, by rw [eqV]; exact m7.get (by omega) (k7C ro (by omega) (by omega)), .none, by omega, by omega, by omega, Nat.le_refl _, fun c e => by have := hv0 c e; omega⟩,
             by rw [cellAt_of_get (k7C _ (by omega) (by omega))]; exact k5, FC, gC tw.a oC (by omega) (by simp), kw tw.w4 oC (by omega) (by simp), .none, fun x hx => (by cases hx), fun c e => (by cases e), o0C, by omega, by omega, by omega, by omega, by omega⟩
          have et : txnS rev comp L0 r = ⟨0, tk, (opsS rev L0 l).1, (opsS rev L0 l).2⟩:= by unfold txnS; rw [if_pos hck, ← htk, ← ebt, if_neg (by simp), if_pos hf, hl]
          rw [et]
          repeat' (first | (with_reducible refine stopC [1, 0, 1, 1, 1, 1, 1, 1, 1, 1, 1, 1] ?_) | ((with_reducible refine st1 ?_); (conv => whnf); (with_reducible refine ⟨?_⟩)) | ((with_reducible refine retW_intro rfl ?_); (conv => arg 2; whnf)) | ((with_reducible first | refine iB ?_ ?_ | refine gWt ?_ ?_ | refine gWf ?_ ?_) <;> intro hb <;> (try simp only [hb])) | (simp only [B, xB, F, reduceLT, reduceLeDiff, reduceEqDiff, reduceAdd, reduceMul, reduceSub, ↓reduceIte, eq_self, g0, g4, g5, g7, g8, k5A, ← hCe, ova, hlenA]))
          refine ⟨?_⟩
          have hBl := hB tk
          rw [← hl] at hBl
          refine opsLoop h0 hC h5.nx bm ro hC.nx h1.nx h6.nx hA.nx L0 v0 rev comp tk l va hTx svA (by rw [hl]; exact zva) hr hs hzL hBl (by rw [hl]; exact checkR_kind hck tk) (by omega) (fun c e => by have := hv0 c e; omega) _ (by simp only [B, xB, F, reduceLT, reduceLeDiff, reduceEqDiff, reduceAdd, reduceMul, reduceSub, ↓reduceIte, eq_self, g0]) (by simp only [B, xB, F, reduceLT, reduceLeDiff, reduceEqDiff, reduceAdd, reduceMul, reduceSub, ↓reduceIte, eq_self, g4]) (by simp only [B, xB, F, reduceLT, reduceLeDiff, reduceEqDiff, reduceAdd, reduceMul, reduceSub, ↓reduceIte, eq_self, g5]) (by simp only [B, xB, F, reduceLT, reduceLeDiff, reduceEqDiff, reduceAdd, reduceMul, reduceSub, ↓reduceIte, eq_self, g7]) (by exact sT) (by exact sT) (by exact sT) (by exact sT) _ ?_
          intro tm3 hD w xs rw_ f0 f4 f5 f7 hxs hTy
          repeat' (first | (with_reducible refine stopC [1, 1, 1, 1, 1, 1, 1, 1, 1, 1, 1] ?_) | ((with_reducible refine st1 ?_); (conv => whnf); (with_reducible refine ⟨?_⟩)) | ((with_reducible refine retW_intro rfl ?_); (conv => arg 2; whnf)) | ((with_reducible first | refine iB ?_ ?_ | refine gWt ?_ ?_ | refine gWf ?_ ?_) <;> intro hb <;> (try simp only [hb])) | (simp only [B, xB, F, reduceLT, reduceLeDiff, reduceEqDiff, reduceAdd, reduceMul, reduceSub, ↓reduceIte, eq_self]))
          refine ⟨?_⟩
          have hBe := hBl l.length (Nat.le_refl _)
          rw [List.take_length] at hBe
          refine txnEnd h0 hD h5.nx bm ro hC.nx h1.nx h6.nx hA.nx L0 v0 rev comp tk _ w xs rw_ hTy gv lbm hne hr (by have := hBe.2; omega) tm3 f0 f4 f5 f7 _ ?_
          intro v h' v1 tp
          rw [hxs] at tp
          exact ⟨xs, rw_, v1, tp⟩
    cases tk with
    | true =>
      repeat' (first | (with_reducible refine stopC [1, 1, 1, 1, 1, 1, 1] ?_) | ((with_reducible refine st1 ?_); (conv => whnf); (with_reducible refine ⟨?_⟩)) | ((with_reducible refine retW_intro rfl ?_); (conv => arg 2; whnf)) | ((with_reducible first | refine iB ?_ ?_ | refine gWt ?_ ?_ | refine gWf ?_ ?_) <;> intro hb <;> (try simp only [hb])) | (simp only [B, xB, F, reduceLT, reduceLeDiff, reduceEqDiff, reduceAdd, reduceMul, reduceSub, ↓reduceIte, eq_self, htk2, z0', z1', z2', z3', z4', z5', z6', z7', oc, ot, oe]))
      refine ⟨?_⟩
      exact rest _ (by exact sT) (by exact sT) (by exact sT) (by exact sT) (by rw [hva]; exact sT)
    | false =>
      repeat' (first | (with_reducible refine stopC [1, 1, 1, 1, 1, 1, 1] ?_) | ((with_reducible refine st1 ?_); (conv => whnf); (with_reducible refine ⟨?_⟩)) | ((with_reducible refine retW_intro rfl ?_); (conv => arg 2; whnf)) | ((with_reducible first | refine iB ?_ ?_ | refine gWt ?_ ?_ | refine gWf ?_ ?_) <;> intro hb <;> (try simp only [hb])) | (simp only [B, xB, F, reduceLT, reduceLeDiff, reduceEqDiff, reduceAdd, reduceMul, reduceSub, ↓reduceIte, eq_self, htk2, z0', z1', z2', z3', z4', z5', z6', z7', oc, ot, oe]))
      refine ⟨?_⟩
      exact rest _ (by exact sT) (by exact sT) (by exact sT) (by exact sT) (by rw [hva]; simp only [B, xB, F, reduceLT, reduceLeDiff, reduceEqDiff, reduceAdd, reduceMul, reduceSub, ↓reduceIte, eq_self, Bool.false_eq_true])
  · have de : decide (e = 0) = false := decide_eq_false qe
    have et : txnS rev comp L0 r = ⟨e, false, [], []⟩:= by unfold txnS; rw [if_neg (by rw [← he]; exact qe), he]
    rw [et]
    obtain ⟨h5, h5e⟩ : ∃ h5, h5 = h4.sts h1.nx 0 (ansC e 0 0 false .nilslice) := ⟨_, rfl⟩
    have A5 : CellsAt h5 h1.nx 0 (ansC e 0 0 false .nilslice):= by rw [h5e]; exact CellsAt.sts w44 _
    obtain ⟨c0, c1, c2, c3, c4, c5, c6, c7, c8⟩ := A5.u9
    have o05 : Og h0 h5 []:= by rw [h5e]; exact o04.sts (.inr (by omega))
    unfold ansC at h5e
    refine rN ?_ (V a0<|V w43<|V h4e.symm<|V b0<|V b1<|V b2<|V b3<|V b4<|V b5<|V b6<|V b7<|V b8<|V de<|V @Bool.not_false<|V w44<|V h5e.symm<|V c0<|V c1<|V c2<|V c3<|V c4<|V c5<|V c6<|V c7<|c8)
    exact ⟨[], .nilslice, v0, TxPost.bad (b4 := 0) md gv hne o05⟩
end
end Go.Proofs.Ytnedigoajoflaaa.M

namespace Go.Proofs.Ytnedigoajoflaaa.M
open Go Go.AX
noncomputable section
set_option maxRecDepth 100000
structure Ap where
 err : Nat
 rev : Nat
 comp : Nat
 tk : Bool
 rs : List Res
 R : List Rec
def compS (rev comp : Nat) (n : Nat) : Nat × Nat := if n ≤ comp then (9, comp) else if rev < n then (10, comp) else (0, n)
def applyS (rev comp : Nat) (L0 : List Rec) (r : Rq) : Ap :=
 if r.kind = 0 then ⟨(txnS rev comp L0 r).err, if (txnS rev comp L0 r).R = [] then rev else rev + 1, comp, (txnS rev comp L0 r).tk, (txnS rev comp L0 r).rs, (txnS rev comp L0 r).R⟩
 else if r.kind = 1 then ⟨(compS rev comp r.rev).1, rev, (compS rev comp r.rev).2, false, [], []⟩
 else ⟨11, rev, comp, false, [], []⟩
structure ApPost (h0 h' : H) (bm : Nat) (L0 : List Rec) (a : Ap) (v : AV) (xs : List RV) (rw_ v1 v0 : AV) : Prop where
 v : v = .agg (ansC a.err a.rev a.comp a.tk rw_)
 hx : xs.map (·.1) = a.rs
 ok : RowOk h' rw_ xs
 md : MdAt h' bm (L0 ++ a.R) a.rev a.comp v1
 gv : Grows 8 0 h' v1 (L0 ++ a.R).length ((L0 ++ a.R).flatMap Rec.cs)
 oo : Og h0 h' [bm]
 nv : ∀ c, blkOf v1 = some c → c ≠ bm
 vb : ∀ c, blkOf v1 = some c → blkOf v0 = some c ∨ h0.nx ≤ c
 rb : ∀ c, blkOf rw_ = some c → h0.nx ≤ c
 xb : ∀ x, x ∈ xs → (∀ c, blkOf x.2.1 = some c → h0.nx ≤ c) ∧ (∀ c, blkOf x.2.2 = some c → h0.nx ≤ c)
theorem RowOk.nil (h : H) : RowOk h .nilslice [] := ⟨.none, fun x hx => by cases hx⟩
set_option maxHeartbeats 4000000 in
theorem compC (h0 : H) (bm : Nat) (L0 : List Rec) (rev comp : Nat) (v0 : AV) (md : MdAt h0 bm L0 rev comp v0) (gv : Grows 8 0 h0 v0 L0.length (L0.flatMap Rec.cs)) (hne : ∀ c, blkOf v0 = some c → c ≠ bm) (r : Rq) (vc vt ve : AV) (ra : RqAt h0 r vc vt ve) :
  PushC P (.enter 21 [.ptr bm 0, .agg (r.cs vc vt ve)] h0) fun v h' => v = .agg (ansC (compS rev comp r.rev).1 0 0 false .nilslice) ∧ Og h0 h' [bm] ∧ MdAt h' bm L0 rev (compS rev comp r.rev).2 v0 ∧ Grows 8 0 h' v0 L0.length (L0.flatMap Rec.cs) := by
 have oc := sl_one ra.sc
 have ot := sl_one ra.st
 have oe := sl_one ra.se
 have lbm := md.lt
 have bx := rqAll h0 r vc vt ve oc ot oe
 obtain ⟨h1, h1e⟩ : ∃ h1, h1 = h0.newCells 31 (r.cs vc vt ve) := ⟨_, rfl⟩
 rw [← h1e] at bx
 have o1 : Og h0 h1 []:= by rw [h1e]; exact (Og.refl _ _).new _ _
 have x1 : h1.nx = h0.nx + 1:= by rw [h1e]; rfl
 have Y1 : CellsAt h1 h0.nx 0 (r.cs vc vt ve):= by rw [h1e]; exact CellsAt.new _ _ _
 obtain ⟨h2, h2e, o2, x2, w42, A2⟩ := ansNew h1
 have o12 := o1.t o2
 obtain ⟨y0, y1, y2, y3, y4, y5, y6, y7⟩ := (gC Y1 o2 (by omega) (by simp)).u8
 have m2 := md.keep o12.1.1 (o12.1.2 bm lbm (by simp)) (fun c e => o12.1.2 c (gv.base e).2 (by simp))
 have m21 := m2.c1
 have m22 := m2.c2
 have m20 := m2.c0
 have wm2 := m2.wr
 obtain ⟨a0, a1, a2, a3, a4, a5, a6, a7, a8⟩ := A2.u9
 -- an error
 have bad : ∀ e : Nat, ∃ h3, (h2.sts h1.nx 0 [.int .i64 (.ofNat e)]).sts h1.nx 0 [.int .i64 (.ofNat e), .int .u64 (.ofNat 0), .int .u64 (.ofNat 0), .bool false, .nilslice, .int .u32 (.ofNat 0), .int .u64 (.ofNat 0), .int .u64 (.ofNat 0), .int .i64 (.ofNat 0)] = h3 ∧ CellsAt (h2.sts h1.nx 0 [.int .i64 (.ofNat e)]) h1.nx 0 (ansC e 0 0 false .nilslice) ∧ CellsAt h3 h1.nx 0 (ansC e 0 0 false .nilslice) ∧ Og h0 h3 [] := fun e => by
  refine ⟨_, rfl, ?_, CellsAt.sts (by rw [wrAt_sts]; exact w42) _, (o12.sts (.inr (by omega))).sts (.inr (by omega))⟩
  have := A2.put w42 (j := 0) (by simp [ansC]) (.int .i64 (.ofNat e))
  rw [Nat.zero_add] at this
  exact this
 by_cases q1 : r.rev ≤ comp
 ·have d1 : decide (r.rev ≤ comp) = true := decide_eq_true q1
  have e : compS rev comp r.rev = (9, comp):= by unfold compS; rw [if_pos q1]
  obtain ⟨h3, h3e, A3, A4, o3⟩ := bad 9
  obtain ⟨b0, b1, b2, b3, b4, b5, b6, b7, b8⟩ := A3.u9
  obtain ⟨c0, c1, c2, c3, c4, c5, c6, c7, c8⟩ := A4.u9
  have w43 : wrAt (h2.sts h1.nx 0 [.int .i64 (.ofNat 9)]) h1.nx = true:= by rw [wrAt_sts]; exact w42
  obtain ⟨hx, hxe⟩ : ∃ hx, hx = h2.sts h1.nx 0 [.int .i64 (.ofNat 9)] := ⟨_, rfl⟩
  rw [← hxe] at h3e b0 b1 b2 b3 b4 b5 b6 b7 b8 w43
  rw [e]
  refine pushC_of_codeW (fn := Try.f21) (c := bodyC Try.f21) Try.func21 rfl ?_
  show codeW P 21 29 none _ _ _ _ _
  refine codeW_root ?_
  refine rT ?_ (V bx<|V h2e<|V y7<|V m22<|V d1<|V a0<|V w42<|V hxe.symm<|V b0<|V b1<|V b2<|V b3<|V b4<|V b5<|V b6<|V b7<|V b8<|V w43<|V h3e<|V c0<|V c1<|V c2<|V c3<|V c4<|V c5<|V c6<|V c7<|c8)
  exact ⟨rfl, ⟨⟨o3.1.1, fun c hc _ => o3.1.2 c hc (by simp)⟩, o3.2⟩, md.keep o3.1.1 (o3.1.2 bm lbm (by simp)) (fun c e => o3.1.2 c (gv.base e).2 (by simp)), gv.of_get o3.1.1 (fun c e => o3.1.2 c (gv.base e).2 (by simp))⟩
 ·have d1 : decide (r.rev ≤ comp) = false := decide_eq_false q1
  by_cases q2 : rev < r.rev
  ·have d2 : decide (rev < r.rev) = true := decide_eq_true q2
   have e : compS rev comp r.rev = (10, comp):= by unfold compS; rw [if_neg q1, if_pos q2]
   obtain ⟨h3, h3e, A3, A4, o3⟩ := bad 10
   obtain ⟨b0, b1, b2, b3, b4, b5, b6, b7, b8⟩ := A3.u9
   obtain ⟨c0, c1, c2, c3, c4, c5, c6, c7, c8⟩ := A4.u9
   have w43 : wrAt (h2.sts h1.nx 0 [.int .i64 (.ofNat 10)]) h1.nx = true:= by rw [wrAt_sts]; exact w42
   obtain ⟨hx, hxe⟩ : ∃ hx, hx = h2.sts h1.nx 0 [.int .i64 (.ofNat 10)] := ⟨_, rfl⟩
   rw [← hxe] at h3e b0 b1 b2 b3 b4 b5 b6 b7 b8 w43
   rw [e]
   refine pushC_of_codeW (fn := Try.f21) (c := bodyC Try.f21) Try.func21 rfl ?_
   show codeW P 21 29 none _ _ _ _ _
   refine codeW_root ?_
   refine rT ?_ (V bx<|V h2e<|V y7<|V m21<|V m22<|V d1<|V d2<|V a0<|V w42<|V hxe.symm<|V b0<|V b1<|V b2<|V b3<|V b4<|V b5<|V b6<|V b7<|V b8<|V w43<|V h3e<|V c0<|V c1<|V c2<|V c3<|V c4<|V c5<|V c6<|V c7<|c8)
   exact ⟨rfl, ⟨⟨o3.1.1, fun c hc _ => o3.1.2 c hc (by simp)⟩, o3.2⟩, md.keep o3.1.1 (o3.1.2 bm lbm (by simp)) (fun c e => o3.1.2 c (gv.base e).2 (by simp)), gv.of_get o3.1.1 (fun c e => o3.1.2 c (gv.base e).2 (by simp))⟩
  ·have d2 : decide (rev < r.rev) = false := decide_eq_false q2
   have e : compS rev comp r.rev = (0, r.rev):= by unfold compS; rw [if_neg q1, if_neg q2]
   obtain ⟨h3, h3e⟩ : ∃ h3, h3 = h2.sts bm 2 [.int .u64 (.ofNat r.rev)] := ⟨_, rfl⟩
   have o3 : Og h2 h3 [bm]:= by rw [h3e]; exact (Og.refl _ _).sts (.inl (by simp))
   have M3 := (CellsAt.m3 m20 m21 m22).put wm2 (j := 2) (by simp) (.int .u64 (.ofNat r.rev))
   rw [Nat.zero_add, ← h3e] at M3
   obtain ⟨p0, p1, p2⟩ := CellsAt.u3 (show CellsAt h3 bm 0 [v0, .int .u64 (.ofNat rev), .int .u64 (.ofNat r.rev)] from M3)
   have wm3 : wrAt h3 bm = true:= by rw [h3e, wrAt_sts]; exact wm2
   have x3 : h3.nx = h2.nx:= by rw [h3e, nx_sts]
   have A3 := gC A2 o3 (by omega) (by simp; omega)
   have w43 := kw w42 o3 (by omega) (by simp; omega)
   obtain ⟨b0, b1, b2, b3, b4, b5, b6, b7, b8⟩ := A3.u9
   obtain ⟨h4, h4e⟩ : ∃ h4, h4 = h3.sts h1.nx 0 (ansC 0 0 0 false .nilslice) := ⟨_, rfl⟩
   have A4 : CellsAt h4 h1.nx 0 (ansC 0 0 0 false .nilslice):= by rw [h4e]; exact CellsAt.sts w43 _
   obtain ⟨c0, c1, c2, c3, c4, c5, c6, c7, c8⟩ := A4.u9
   have k4 : ∀ c, c ≠ h1.nx → h4.t.get c = h3.t.get c := fun c hc => by rw [h4e, get_sts _ _ _ _ hc]
   have x4 : h4.nx = h3.nx:= by rw [h4e, nx_sts]
   unfold ansC at h4e
   rw [e]
   refine pushC_of_codeW (fn := Try.f21) (c := bodyC Try.f21) Try.func21 rfl ?_
   show codeW P 21 29 none _ _ _ _ _
   refine codeW_root ?_
   refine rT ?_ (V bx<|V h2e<|V y7<|V m21<|V m22<|V d1<|V d2<|V wm2<|V h3e.symm<|V b0<|V b1<|V b2<|V b3<|V b4<|V b5<|V b6<|V b7<|V b8<|V w43<|V h4e.symm<|V c0<|V c1<|V c2<|V c3<|V c4<|V c5<|V c6<|V c7<|c8)
   have kk : ∀ c, c < h0.nx → c ≠ bm → h4.t.get c = h0.t.get c := fun c hc hn => by rw [k4 c (by omega), o3.1.2 c (by omega) (by simp [hn]), o12.1.2 c hc (by simp)]
   have g4 : Grows 8 0 h4 v0 L0.length (L0.flatMap Rec.cs) := gv.of_get (by omega) (fun c e => kk c (gv.base e).2 (hne c e))
   exact ⟨rfl, ⟨⟨by omega, fun c hc hn => kk c hc (by simpa using hn)⟩, by rw [h4e, g_sts, o3.2, o12.2]⟩, ⟨by omega, by rw [cellAt_of_get (k4 bm (by omega))]; exact p0, by rw [cellAt_of_get (k4 bm (by omega))]; exact p1, by rw [cellAt_of_get (k4 bm (by omega))]; exact p2, by rw [wrAt_of_get (k4 bm (by omega))]; exact wm3, g4.slice⟩, g4⟩
theorem applyTail (h0 h : H) (bm b4 : Nat) (L : List Rec) (err r0 c0 rev comp : Nat) (tk : Bool) (xs : List RV) (rw_ v1 : AV) (A : CellsAt h b4 0 (ansC err r0 c0 tk rw_)) (w4 : wrAt h b4 = true) (md : MdAt h bm L rev comp v1) (gv : Grows 8 0 h v1 L.length (L.flatMap Rec.cs)) (ok : RowOk h rw_ xs) (oo : Og h0 h [bm]) (l4 : h0.nx ≤ b4) (lb : bm < h0.nx) (h4 : b4 < h.nx)
  (b1 : ∀ c, blkOf rw_ = some c → c ≠ b4) (b2 : ∀ x, x ∈ xs → (∀ c, blkOf x.2.1 = some c → c ≠ b4) ∧ (∀ c, blkOf x.2.2 = some c → c ≠ b4)) (hv : ∀ c, blkOf v1 = some c → c ≠ b4) (nv : ∀ c, blkOf v1 = some c → c ≠ bm)
  (tm : T AV) (t0 : tm.get 0 = some (.ptr bm 0)) (t4 : tm.get 4 = some (.ptr b4 0)) (Q : AV → H → Prop) (hQ : ∀ v h', v = .agg (ansC err rev comp tk rw_) → RowOk h' rw_ xs → MdAt h' bm L rev comp v1 → Grows 8 0 h' v1 L.length (L.flatMap Rec.cs) → Og h0 h' [bm] → Q v h') :
  codeW P 9 32 none (codeI (bodyC Try.f9) [1, 1, 1]) [] tm h (retK P Try.f9 Q) := by
 have ro := sl_one ok.gr
 have m1 := md.c1
 have m2 := md.c2
 obtain ⟨a0, a1, a2, a3, a4, a5, a6, a7, a8⟩ := A.u9
 obtain ⟨h1, h1e⟩ : ∃ h1, h1 = (h.sts b4 1 [.int .u64 (.ofNat rev)]).sts b4 2 [.int .u64 (.ofNat comp)] := ⟨_, rfl⟩
 have A1 : CellsAt h1 b4 0 (ansC err rev comp tk rw_) := by
  have q1 := A.put w4 (j := 1) (by simp [ansC]) (.int .u64 (.ofNat rev))
  have q2 := q1.put (by rw [wrAt_sts]; exact w4) (j := 2) (by simp [ansC]) (.int .u64 (.ofNat comp))
  rw [Nat.zero_add, Nat.zero_add, ← h1e] at q2
  exact q2
 have w41 : wrAt h1 b4 = true:= by rw [h1e, wrAt_sts, wrAt_sts]; exact w4
 obtain ⟨c0', c1, c2, c3, c4, c5, c6, c7, c8⟩ := A1.u9
 obtain ⟨h2, h2e⟩ : ∃ h2, h2 = h1.sts b4 0 (ansC err rev comp tk rw_) := ⟨_, rfl⟩
 have A2 : CellsAt h2 b4 0 (ansC err rev comp tk rw_):= by rw [h2e]; exact CellsAt.sts w41 _
 obtain ⟨e0, e1, e2, e3, e4, e5, e6, e7, e8⟩ := A2.u9
 have k2 : ∀ c, c ≠ b4 → h2.t.get c = h.t.get c := fun c hc => by rw [h2e, get_sts _ _ _ _ hc, h1e, get_sts _ _ _ _ hc, get_sts _ _ _ _ hc]
 have x2 : h2.nx = h.nx:= by rw [h2e, nx_sts, h1e, nx_sts, nx_sts]
 have hg : h2.g = h.g:= by rw [h2e, g_sts, h1e, g_sts, g_sts]
 have n1 : (bm = b4) = False:= by simp; omega
 unfold ansC at h2e
 refine rT ?_ (V t0<|V t4<|V m1<|V m2<|V n1<|V a1<|V a2<|V w4<|V h1e.symm<|V c0'<|V c1<|V c2<|V c3<|V c4<|V c5<|V c6<|V c7<|V c8<|V w41<|V ro<|V h2e.symm<|V e0<|V e1<|V e2<|V e3<|V e4<|V e5<|V e6<|V e7<|e8)
 refine hQ _ _ rfl ⟨ok.gr.move (by omega) (fun c e => k2 c (b1 c e)), fun x hx => ⟨(ok.ok x hx).1.move (by omega) (fun c e => k2 c ((b2 x hx).1 c e)), (ok.ok x hx).2.move (by omega) (fun c e => k2 c ((b2 x hx).2 c e))⟩⟩ (md.keep (by omega) (k2 bm (by omega)) (fun c e => k2 c (hv c e))) (gv.of_get (by omega) (fun c e => k2 c (hv c e))) ⟨⟨by have := oo.1.1; omega, fun c hc hn => by rw [k2 c (by omega)]; exact oo.1.2 c hc hn⟩, hg.trans oo.2⟩
set_option maxHeartbeats 4000000 in
theorem applyC (h0 : H) (bm : Nat) (L0 : List Rec) (rev comp : Nat) (v0 : AV) (md : MdAt h0 bm L0 rev comp v0) (gv : Grows 8 0 h0 v0 L0.length (L0.flatMap Rec.cs)) (hne : ∀ c, blkOf v0 = some c → c ≠ bm) (r : Rq) (vc vt ve : AV) (ra : RqAt h0 r vc vt ve)
  (hm : ∀ x, x ∈ L0 → x.main ≤ rev) (hr : rev ≤ 1000000) (hs : Short L0) (hzL : L0.length ≤ 200000)
  (hB : ∀ tk i, i ≤ (brV r tk).length → Short (opsS rev L0 ((brV r tk).take i)).2 ∧ (opsS rev L0 ((brV r tk).take i)).2.length ≤ 200000) :
  PushC P (.enter 9 [.ptr bm 0, .agg (r.cs vc vt ve)] h0) fun v h' => ∃ xs rw_ v1, ApPost h0 h' bm L0 (applyS rev comp L0 r) v xs rw_ v1 v0 := by
 have oc := sl_one ra.sc
 have ot := sl_one ra.st
 have oe := sl_one ra.se
 have lbm := md.lt
 have hv0 : ∀ c, blkOf v0 = some c → c < h0.nx := fun c e => (gv.base e).2
 have bx := rqAll h0 r vc vt ve oc ot oe
 obtain ⟨h1, h1e⟩ : ∃ h1, h1 = h0.newCells 31 (r.cs vc vt ve) := ⟨_, rfl⟩
 rw [← h1e] at bx
 have o1 : Og h0 h1 []:= by rw [h1e]; exact (Og.refl _ _).new _ _
 have x1 : h1.nx = h0.nx + 1:= by rw [h1e]; rfl
 have Y1 : CellsAt h1 h0.nx 0 (r.cs vc vt ve):= by rw [h1e]; exact CellsAt.new _ _ _
 obtain ⟨h2, h2e, o2, x2, w42, A2⟩ := ansNew h1
 have o12 := o1.t o2
 have Y2 := gC Y1 o2 (by omega) (by simp)
 obtain ⟨y0, y1, y2, y3, y4, y5, y6, y7⟩ := Y2.u8
 have m2 := md.keep o12.1.1 (o12.1.2 bm lbm (by simp)) (fun c e => o12.1.2 c (hv0 c e) (by simp))
 have gv2 := gv.of_get o12.1.1 (fun c e => o12.1.2 c (hv0 c e) (by simp))
 have ra2 := ra.keep o12
 obtain ⟨a0, a1, a2, a3, a4, a5, a6, a7, a8⟩ := A2.u9
 by_cases q0 : r.kind = 0
 ·have d0 : (r.kind == Int.ofNat 0) = true:= by rw [q0]; rfl
  have ea : applyS rev comp L0 r = ⟨(txnS rev comp L0 r).err, if (txnS rev comp L0 r).R = [] then rev else rev + 1, comp, (txnS rev comp L0 r).tk, (txnS rev comp L0 r).rs, (txnS rev comp L0 r).R⟩:= by unfold applyS; rw [if_pos q0]
  rw [ea]
  refine pushC_of_codeW (fn := Try.f9) (c := bodyC Try.f9) Try.func9 rfl ?_
  show codeW P 9 32 none _ _ _ _ _
  refine codeW_root ?_
  refine rN ?_ (V bx<|V h2e<|V y0<|V y1<|V y2<|V y3<|V y4<|V y5<|V y6<|V y7<|d0)
  refine ((txnC h2 bm L0 rev comp v0 m2 gv2 hne r vc vt ve ra2 hm hr hs hzL hB).call P).mono P ?_
  rintro _ h3 ⟨xs, rw_, v1, tp⟩
  obtain ⟨T, hT⟩ : ∃ T, T = txnS rev comp L0 r := ⟨_, rfl⟩
  rw [← hT] at tp ⊢
  obtain ⟨hv, hx, gr, ok, md3, gv3, oo3, nv3, rb, xb, vb⟩ := tp
  unfold ansC at hv
  subst hv
  have x3 := oo3.1.1
  have ro := sl_one gr
  have A3 := gC A2 oo3 (by omega) (by simp; omega)
  have w43 := kw w42 oo3 (by omega) (by simp; omega)
  obtain ⟨b0, b1, b2, b3, b4, b5, b6, b7, b8⟩ := A3.u9
  obtain ⟨h4, h4e⟩ : ∃ h4, h4 = h3.sts h1.nx 0 (ansC T.err 0 0 T.tk rw_) := ⟨_, rfl⟩
  have A4 : CellsAt h4 h1.nx 0 (ansC T.err 0 0 T.tk rw_):= by rw [h4e]; exact CellsAt.sts w43 _
  have w44 : wrAt h4 h1.nx = true:= by rw [h4e, wrAt_sts]; exact w43
  have k4 : ∀ c, c ≠ h1.nx → h4.t.get c = h3.t.get c := fun c hc => by rw [h4e, get_sts _ _ _ _ hc]
  have x4 : h4.nx = h3.nx:= by rw [h4e, nx_sts]
  have vb1 : ∀ c, blkOf v1 = some c → c ≠ h1.nx := fun c e => by
   rcases vb c e with q | q
   ·have := hv0 c q; omega
   ·omega
  unfold ansC at h4e
  repeat' (first | (with_reducible refine stopC [1, 1, 1] ?_) | ((with_reducible refine st1 ?_); (conv => whnf); (with_reducible refine ⟨?_⟩)) | ((with_reducible refine retW_intro rfl ?_); (conv => arg 2; whnf)) | ((with_reducible first | refine iB ?_ ?_ | refine gWt ?_ ?_ | refine gWf ?_ ?_) <;> intro hb <;> (try simp only [hb])) | (simp only [B, xB, F, reduceLT, reduceLeDiff, reduceEqDiff, reduceAdd, reduceMul, reduceSub, ↓reduceIte, eq_self, ro, b0, b1, b2, b3, b4, b5, b6, b7, b8, w43, ← h4e]))
  refine ⟨?_⟩
  have rok : RowOk h4 rw_ xs := ⟨gr.move (by omega) (fun c e => k4 c (by have := rb c e; omega)), fun x hx => ⟨(ok x hx).1.move (by omega) (fun c e => k4 c (by have := (xb x hx).1 c e; omega)), (ok x hx).2.move (by omega) (fun c e => k4 c (by have := (xb x hx).2 c e; omega))⟩⟩
  refine applyTail h0 h4 bm h1.nx _ T.err 0 0 _ comp T.tk xs rw_ v1 A4 w44 (md3.keep (by omega) (k4 bm (by omega)) (fun c e => k4 c (vb1 c e))) (gv3.of_get (by omega) (fun c e => k4 c (vb1 c e))) rok ⟨⟨by omega, fun c hc hn => by rw [k4 c (by omega), oo3.1.2 c (by omega) hn, o12.1.2 c hc (by simp)]⟩, by rw [h4e, g_sts, oo3.2, o12.2]⟩ (by omega) lbm (by omega) (fun c e => by have := rb c e; omega) (fun x hx => ⟨fun c e => by have := (xb x hx).1 c e; omega, fun c e => by have := (xb x hx).2 c e; omega⟩) vb1 nv3 _ (by exact sT) (by exact sT) _ ?_
  intro v h' hv rk m g o
  exact ⟨xs, rw_, v1, hv, hx, rk, m, g, o, nv3, fun c e => by rcases vb c e with q | q; exact .inl q; exact .inr (by omega), fun c e => by have := rb c e; omega, fun x hx => ⟨fun c e => by have := (xb x hx).1 c e; omega, fun c e => by have := (xb x hx).2 c e; omega⟩⟩
 ·have d0 : (r.kind == Int.ofNat 0) = false:= by simpa using q0
  by_cases q1 : r.kind = 1
  ·have d1 : (r.kind == Int.ofNat 1) = true:= by rw [q1]; rfl
   have ea : applyS rev comp L0 r = ⟨(compS rev comp r.rev).1, rev, (compS rev comp r.rev).2, false, [], []⟩:= by unfold applyS; rw [if_neg q0, if_pos q1]
   rw [ea]
   refine pushC_of_codeW (fn := Try.f9) (c := bodyC Try.f9) Try.func9 rfl ?_
   show codeW P 9 32 none _ _ _ _ _
   refine codeW_root ?_
   refine rN ?_ (V bx<|V h2e<|V y0<|V y1<|V y2<|V y3<|V y4<|V y5<|V y6<|V y7<|V d0<|d1)
   refine ((compC h2 bm L0 rev comp v0 m2 gv2 hne r vc vt ve ra2).call P).mono P ?_
   rintro _ h3 ⟨hv, oo3, md3, gv3⟩
   obtain ⟨T, hT⟩ : ∃ T, T = compS rev comp r.rev := ⟨_, rfl⟩
   rw [← hT] at hv md3 ⊢
   unfold ansC at hv
   subst hv
   have x3 := oo3.1.1
   have A3 := gC A2 oo3 (by omega) (by simp; omega)
   have w43 := kw w42 oo3 (by omega) (by simp; omega)
   obtain ⟨b0, b1, b2, b3, b4, b5, b6, b7, b8⟩ := A3.u9
   obtain ⟨h4, h4e⟩ : ∃ h4, h4 = h3.sts h1.nx 0 (ansC T.1 0 0 false .nilslice) := ⟨_, rfl⟩
   have A4 : CellsAt h4 h1.nx 0 (ansC T.1 0 0 false .nilslice):= by rw [h4e]; exact CellsAt.sts w43 _
   have w44 : wrAt h4 h1.nx = true:= by rw [h4e, wrAt_sts]; exact w43
   have k4 : ∀ c, c ≠ h1.nx → h4.t.get c = h3.t.get c := fun c hc => by rw [h4e, get_sts _ _ _ _ hc]
   have x4 : h4.nx = h3.nx:= by rw [h4e, nx_sts]
   have vb1 : ∀ c, blkOf v0 = some c → c ≠ h1.nx := fun c e => by have := hv0 c e; omega
   unfold ansC at h4e
   repeat' (first | (with_reducible refine stopC [1, 1, 1] ?_) | ((with_reducible refine st1 ?_); (conv => whnf); (with_reducible refine ⟨?_⟩)) | ((with_reducible refine retW_intro rfl ?_); (conv => arg 2; whnf)) | ((with_reducible first | refine iB ?_ ?_ | refine gWt ?_ ?_ | refine gWf ?_ ?_) <;> intro hb <;> (try simp only [hb])) | (simp only [B, xB, F, reduceLT, reduceLeDiff, reduceEqDiff, reduceAdd, reduceMul, reduceSub, ↓reduceIte, eq_self, b0, b1, b2, b3, b4, b5, b6, b7, b8, w43, ← h4e]))
   refine ⟨?_⟩
   refine applyTail h0 h4 bm h1.nx _ T.1 0 0 rev T.2 false [] .nilslice v0 A4 w44 (md3.keep (by omega) (k4 bm (by omega)) (fun c e => k4 c (vb1 c e))) (gv3.of_get (by omega) (fun c e => k4 c (vb1 c e))) (RowOk.nil _) ⟨⟨by omega, fun c hc hn => by rw [k4 c (by omega), oo3.1.2 c (by omega) hn, o12.1.2 c hc (by simp)]⟩, by rw [h4e, g_sts, oo3.2, o12.2]⟩ (by omega) lbm (by omega) (fun c e => by cases e) (fun x hx => by cases hx) vb1 hne _ (by exact sT) (by exact sT) _ ?_
   intro v h' hv rk m g o
   exact ⟨[], .nilslice, v0, hv, rfl, rk, by rw [List.append_nil]; exact m, by rw [List.append_nil]; exact g, o, hne, fun c e => .inl e, fun c e => (by cases e), fun x hx => (by cases hx)⟩
  ·have d1 : (r.kind == Int.ofNat 1) = false:= by simpa using q1
   have ea : applyS rev comp L0 r = ⟨11, rev, comp, false, [], []⟩:= by unfold applyS; rw [if_neg q0, if_neg q1]
   rw [ea]
   obtain ⟨h4, h4e⟩ : ∃ h4, h4 = h2.sts h1.nx 0 [.int .i64 (.ofNat 11)] := ⟨_, rfl⟩
   have A4 : CellsAt h4 h1.nx 0 (ansC 11 0 0 false .nilslice) := by
    have := A2.put w42 (j := 0) (by simp [ansC]) (.int .i64 (.ofNat 11))
    rw [Nat.zero_add, ← h4e] at this
    exact this
   have w44 : wrAt h4 h1.nx = true:= by rw [h4e, wrAt_sts]; exact w42
   have k4 : ∀ c, c ≠ h1.nx → h4.t.get c = h2.t.get c := fun c hc => by rw [h4e, get_sts _ _ _ _ hc]
   have x4 : h4.nx = h2.nx:= by rw [h4e, nx_sts]
   have vb1 : ∀ c, blkOf v0 = some c → c ≠ h1.nx := fun c e => by have := hv0 c e; omega
   refine pushC_of_codeW (fn := Try.f9) (c := bodyC Try.f9) Try.func9 rfl ?_
   show codeW P 9 32 none _ _ _ _ _
   refine codeW_root ?_
   repeat' (first | (with_reducible refine stopC [1, 1, 1] ?_) | ((with_reducible refine st1 ?_); (conv => whnf); (with_reducible refine ⟨?_⟩)) | ((with_reducible refine retW_intro rfl ?_); (conv => arg 2; whnf)) | ((with_reducible first | refine iB ?_ ?_ | refine gWt ?_ ?_ | refine gWf ?_ ?_) <;> intro hb <;> (try simp only [hb])) | (simp only [B, xB, F, reduceLT, reduceLeDiff, reduceEqDiff, reduceAdd, reduceMul, reduceSub, ↓reduceIte, eq_self, bx, h2e, y0, y1, y2, y3, y4, y5, y6, y7, d0, d1, a0, w42, ← h4e]))
   refine ⟨?_⟩
   refine applyTail h0 h4 bm h1.nx _ 11 0 0 rev comp false [] .nilslice v0 A4 w44 (m2.keep (by omega) (k4 bm (by omega)) (fun c e => k4 c (vb1 c e))) (gv2.of_get (by omega) (fun c e => k4 c (vb1 c e))) (RowOk.nil _) ⟨⟨by omega, fun c hc hn => by rw [k4 c (by omega), o12.1.2 c hc (by simp)]⟩, by rw [h4e, g_sts, o12.2]⟩ (by omega) lbm (by omega) (fun c e => by cases e) (fun x hx => by cases hx) vb1 hne _ (by exact sT) (by exact sT) _ ?_
   intro v h' hv rk m g o
   exact ⟨[], .nilslice, v0, hv, rfl, rk, by rw [List.append_nil]; exact m, by rw [List.append_nil]; exact g, o, hne, fun c e => .inl e, fun c e => (by cases e), fun x hx => (by cases hx)⟩
end
end Go.Proofs.Ytnedigoajoflaaa.M

namespace Go.Proofs.Ytnedigoajoflaaa.M
open Go Go.AX
noncomputable section
set_option maxRecDepth 100000
def RowK (h : H) (v : AV) (m : Nat) (cs : List AV) : Prop := ((v = .nilslice ∨ v = .slice0) ∧ m = 0 ∧ cs = []) ∨ ∃ b o cap, v = .slice b o m cap ∧ b < h.nx ∧ h.row b o (m * 8) = some cs ∧ cs.length = m * 8
theorem row_get {h h' : H} {b : Nat} (e : h'.t.get b = h.t.get b) (o k : Nat) : h'.row b o k = h.row b o k:= by unfold H.row; rw [e]
theorem RowK.move {h h' : H} {v : AV} {m : Nat} {cs : List AV} (k : RowK h v m cs) (hx : h.nx ≤ h'.nx) (e : ∀ c, blkOf v = some c → h'.t.get c = h.t.get c) : RowK h' v m cs := by
 rcases k with q | ⟨b, o, cap, rfl, hb, hr, hl⟩
 ·exact .inl q
 ·exact .inr ⟨b, o, cap, rfl, by omega, by rw [row_get (e b rfl)]; exact hr, hl⟩
theorem RowK.one {h : H} {v : AV} {m : Nat} {cs : List AV} (k : RowK h v m cs) : v.one = true := by
 rcases k with ⟨rfl | rfl, -, -⟩ | ⟨b, o, cap, rfl, -, -, -⟩ <;> rfl
theorem RowK.cells {h : H} {v : AV} {m : Nat} {cs : List AV} (k : RowK h v m cs) : v.cells = [v] := by
 rcases k with ⟨rfl | rfl, -, -⟩ | ⟨b, o, cap, rfl, -, -, -⟩ <;> rfl
theorem RowK.lt {h : H} {v : AV} {m : Nat} {cs : List AV} (k : RowK h v m cs) : ∀ c, blkOf v = some c → c < h.nx := by
 intro c e
 rcases k with ⟨rfl | rfl, -, -⟩ | ⟨b, o, cap, rfl, hb, -, -⟩
 ·cases e
 ·cases e
 ·cases e; exact hb
theorem RowK.app {h : H} {v l0 : AV} {m n0 base : Nat} {cs cs0 : List AV} (k : RowK h v m cs) (hg : Grows 8 base h l0 n0 cs0) (hb : base ≤ h.nx) (hz : n0 + m ≤ 4194304) {K : AV → H → Prop} (hk : AppTo 8 base h l0 (n0 + m) (cs0 ++ cs) K) : exW P (builtinA P .append [45, 45] [l0, v] h) K := by
 rcases k with ⟨hv, rfl, rfl⟩ | ⟨b, o, cap, rfl, -, hr, hl⟩
 ·exact app_none u45a i45 hg hv (by simpa using hk)
 ·rcases Nat.eq_zero_or_pos m with rfl | q
  ·have : cs = [] := List.length_eq_zero_iff.1 (by omega)
   subst this
   exact app_zero u45a i45 hg (by simpa using hr) (by simpa using hk)
  ·exact app_some (by omega) u45a i45 hg hb hr hl q (by omega) hk
structure SrAt (h : H) (b : Nat) (L : List Rec) (rev comp : Nat) (v : AV) (S : List Rec) (sv : AV) (at1 : Nat) : Prop where
 lt : b < h.nx
 c : CellsAt h b 0 [v, .int .u64 (.ofNat rev), .int .u64 (.ofNat comp), .int .u64 (.ofNat 0), .int .u64 (.ofNat 0), .nilslice, sv, .int .u64 (.ofNat at1)]
 wr : wrAt h b = true
 gv : Grows 8 0 h v L.length (L.flatMap Rec.cs)
 ss : SliceAt h sv S.length (S.flatMap Rec.cs)
 sk : RowK h sv S.length (S.flatMap Rec.cs)
 nv : ∀ c, blkOf v = some c → c ≠ b
 ns : ∀ c, blkOf sv = some c → c ≠ b
theorem SrAt.keep {h h' : H} {b rev comp at1 : Nat} {L S : List Rec} {v sv : AV} (s : SrAt h b L rev comp v S sv at1) (o : Og h h' []) : SrAt h' b L rev comp v S sv at1 :=
 ⟨Nat.lt_of_lt_of_le s.lt o.1.1, gC s.c o s.lt (by simp), kw s.wr o s.lt (by simp), s.gv.of_get o.1.1 (fun c e => o.1.2 c (s.gv.base e).2 (by simp)), s.ss.move o.1.1 (fun c e => o.1.2 c (sl_lt s.ss c e) (by simp)), s.sk.move o.1.1 (fun c e => o.1.2 c (sl_lt s.ss c e) (by simp)), s.nv, s.ns⟩
set_option maxHeartbeats 4000000 in
theorem commitC (h0 : H) (b : Nat) (L : List Rec) (rev comp : Nat) (v : AV) (S : List Rec) (sv : AV) (at1 : Nat) (s : SrAt h0 b L rev comp v S sv at1) (hr : rev ≤ 1000000) (hz : L.length + S.length ≤ 1000000) :
  PushC P (.enter 23 [.ptr b 0, .int .u64 (.ofNat 0), .nilslice] h0) fun u h' => u = .int .i64 (.ofNat 0) ∧ Og h0 h' [b] ∧ ∃ v', SrAt h' b (L ++ S) (if S = [] then rev else rev + 1) (if 0 < at1 then at1 else comp) v' [] .nilslice 0 ∧ ∀ c, blkOf v' = some c → h0.nx ≤ c := by
 have lt := s.lt
 obtain ⟨c0, c1, c2, c3, c4, c5, c6, c7⟩ := s.c.u8
 have vo := s.gv.one
 have so := s.sk.one
 have hlen := s.ss.len (P := P) u45a
 refine pushC_of_codeW (fn := Try.f23) (c := bodyC Try.f23) Try.func23 rfl ?_
 show codeW P 23 198 none _ _ _ _ _
 refine codeW_root ?_
 refine rN ?_ (V c0<|V c1<|V c2<|V c3<|V c4<|V c5<|V c6<|V c7<|V vo<|so)
 refine st_loop (fun m ds tm h => m = 0 ∧ ds = [] ∧ tm.get 0 = some (.ptr b 0) ∧ tm.get 1 = some (.int .u64 (.ofNat 0)) ∧ tm.get 2 = some .nilslice ∧ tm.get 7 = some (.int .i64 (.ofNat 0)) ∧ h = h0) 0 rfl ⟨rfl, rfl, by exact sT, by exact sT, by exact sT, by exact sT, rfl⟩ (fun m ds tm h hI => ?_)
 obtain ⟨rfl, rfl, t0, t1, t2, t7, rfl⟩ := hI
 have d0 : decide (0 < 0) = false := rfl
 refine rN ?_ (V t0<|V t1<|V t2<|V t7<|d0)
 clear t7
 refine st_loop (fun m ds tm h' => m = 0 ∧ ds = [] ∧ tm.get 0 = some (.ptr b 0) ∧ tm.get 1 = some (.int .u64 (.ofNat 0)) ∧ tm.get 2 = some .nilslice ∧ tm.get 9 = some (.int .i64 (.ofNat 0)) ∧ h' = h) 0 rfl ⟨rfl, rfl, by exact sT, by exact sT, by exact sT, by exact sT, rfl⟩ (fun m ds tm h hI => ?_)
 clear t0 t1 t2
 obtain ⟨rfl, rfl, t0, t1, t2, t9, rfl⟩ := hI
 refine rN ?_ (V t0<|V t1<|V t2<|V t9<|V d0<|V c0<|V c1<|V c2<|V c3<|V c4<|V c5<|V c6<|V c7<|V vo<|so)
 refine app_row (base := h.nx) (n0 := 0) (cs0 := []) (by omega) u45a i45 Grows.none s.gv (Nat.le_refl _) (by omega) (fun v1 h1 g1 x1 old1 bl1 gg1 => ?_)
 rw [Nat.zero_add, List.nil_append] at g1
 have o1 : Og h h1 [] := ⟨⟨x1, fun c hc _ => old1 c hc (by simp [blkOf])⟩, gg1⟩
 have v1o := g1.one
 have s1 := s.keep o1
 obtain ⟨e0, e1, e2, e3, e4, e5, e6, e7⟩ := s1.c.u8
 refine rN ?_ (V t0<|V t1<|V t2<|V v1o<|V e0<|V e1<|V e2<|V e3<|V e4<|V e5<|V e6<|V e7<|so)
 refine s1.sk.app g1 x1 (by omega) (fun v2 h2 g2 x2 old2 bl2 gg2 => ?_)
 have v2o := g2.one
 have v2c := g2.cells
 have hb1 : ∀ c, blkOf v1 = some c → h.nx ≤ c := fun c e => (g1.base e).1
 have k2 : ∀ c, c < h.nx → h2.t.get c = h1.t.get c := fun c hc => old2 c (by omega) (fun e => by have := hb1 c e; omega)
 have C2 := s1.c.of_get (k2 b lt)
 have w2 : wrAt h2 b = true:= by rw [wrAt_of_get (k2 b lt)]; exact s1.wr
 obtain ⟨f0, f1, f2, f3, f4, f5, f6, f7⟩ := C2.u8
 obtain ⟨h3, h3e⟩ : ∃ h3, h3 = h2.sts b 0 [v2] := ⟨_, rfl⟩
 have C3 := C2.put w2 (j := 0) (by simp) v2
 rw [Nat.zero_add, ← h3e] at C3
 have C3' : CellsAt h3 b 0 [v2, .int .u64 (.ofNat rev), .int .u64 (.ofNat comp), .int .u64 (.ofNat 0), .int .u64 (.ofNat 0), .nilslice, sv, .int .u64 (.ofNat at1)] := C3
 have w3 : wrAt h3 b = true:= by rw [h3e, wrAt_sts]; exact w2
 obtain ⟨i0, i1, i2, i3, i4, i5, i6, i7⟩ := C3'.u8
 have hb2 : ∀ c, blkOf v2 = some c → h.nx ≤ c := fun c e => (g2.base e).1
 have wr1 : wrapF .u64 (Int.ofNat rev + Int.ofNat 1) = Int.ofNat (rev + 1) := u64_add (by omega)
 -- the end, with what Rev and Compacted come to
 have fin : ∀ (h4 : H) (r4 c4 : Nat), h4.nx = h2.nx → (∀ c, c ≠ b → h4.t.get c = h2.t.get c) → h4.g = h2.g → wrAt h4 b = true → CellsAt h4 b 0 [v2, .int .u64 (.ofNat r4), .int .u64 (.ofNat c4), .int .u64 (.ofNat 0), .int .u64 (.ofNat 0), .nilslice, .nilslice, .int .u64 (.ofNat 0)] → Og h h4 [b] ∧ SrAt h4 b (L ++ S) r4 c4 v2 [] .nilslice 0 := fun h4 r4 c4 x4 k4 gg4 w4 C4 => by
  refine ⟨⟨⟨by omega, fun c hc hn => ?_⟩, by rw [gg4, gg2, gg1]⟩, ⟨by omega, C4, w4, ?_, .none, .inl ⟨.inl rfl, rfl, rfl⟩, fun c e => by have := hb2 c e; omega, fun c e => by cases e⟩⟩
  ·rw [k4 c (by simpa using hn), k2 c hc, o1.1.2 c hc (by simp)]
  ·rw [List.length_append, List.flatMap_append]
   exact (g2.of_get (by omega) (fun c e => k4 c (by have := hb2 c e; omega))).wk (Nat.zero_le _)
 have nS : ∀ q : S = [], decide (0 < S.length) = false := fun q => by rw [q]; rfl
 have pS : ∀ q : S ≠ [], decide (0 < S.length) = true := fun q => decide_eq_true (List.length_pos_iff.2 q)
 by_cases qs : S = []
 ·have ds := nS qs
  rw [if_pos qs]
  by_cases qa : 0 < at1
  ·have da : decide (0 < at1) = true := decide_eq_true qa
   rw [if_pos qa]
   refine rN ?_ (V t0<|V t1<|V t2<|V f0<|V f1<|V f2<|V f3<|V f4<|V f5<|V f6<|V f7<|V v2o<|V v2c<|V w2<|V h3e.symm<|V i0<|V i1<|V i2<|V i3<|V i4<|V i5<|V i6<|V i7<|V w3<|V so<|V hlen<|V ds<|V da<|wr1)
   refine (fun q => ⟨q.1, v2, q.2, hb2⟩) (fin _ rev at1 (by simp only [nx_sts, h3e]) (fun c hc => by simp only [get_sts _ _ _ _ hc, h3e]) (by simp only [g_sts, h3e]) (by simp only [wrAt_sts]; exact w3) ?_)
   exact (((C3'.put (w3) (j := 2) (by simp) (.int .u64 (.ofNat at1))).put (by simp only [wrAt_sts]; exact w3) (j := 6) (by simp) (.nilslice)).put (by simp only [wrAt_sts]; exact w3) (j := 7) (by simp) (.int .u64 (.ofNat 0)))
  ·have da : decide (0 < at1) = false := decide_eq_false qa
   rw [if_neg qa]
   refine rN ?_ (V t0<|V t1<|V t2<|V f0<|V f1<|V f2<|V f3<|V f4<|V f5<|V f6<|V f7<|V v2o<|V v2c<|V w2<|V h3e.symm<|V i0<|V i1<|V i2<|V i3<|V i4<|V i5<|V i6<|V i7<|V w3<|V so<|V hlen<|V ds<|V da<|wr1)
   refine (fun q => ⟨q.1, v2, q.2, hb2⟩) (fin _ rev comp (by simp only [nx_sts, h3e]) (fun c hc => by simp only [get_sts _ _ _ _ hc, h3e]) (by simp only [g_sts, h3e]) (by simp only [wrAt_sts]; exact w3) ?_)
   exact ((C3'.put (w3) (j := 6) (by simp) (.nilslice)).put (by simp only [wrAt_sts]; exact w3) (j := 7) (by simp) (.int .u64 (.ofNat 0)))
 ·have ds := pS qs
  rw [if_neg qs]
  by_cases qa : 0 < at1
  ·have da : decide (0 < at1) = true := decide_eq_true qa
   rw [if_pos qa]
   refine rN ?_ (V t0<|V t1<|V t2<|V f0<|V f1<|V f2<|V f3<|V f4<|V f5<|V f6<|V f7<|V v2o<|V v2c<|V w2<|V h3e.symm<|V i0<|V i1<|V i2<|V i3<|V i4<|V i5<|V i6<|V i7<|V w3<|V so<|V hlen<|V ds<|V da<|wr1)
   refine (fun q => ⟨q.1, v2, q.2, hb2⟩) (fin _ (rev + 1) at1 (by simp only [nx_sts, h3e]) (fun c hc => by simp only [get_sts _ _ _ _ hc, h3e]) (by simp only [g_sts, h3e]) (by simp only [wrAt_sts]; exact w3) ?_)
   exact ((((C3'.put (w3) (j := 1) (by simp) (.int .u64 (.ofNat (rev + 1)))).put (by simp only [wrAt_sts]; exact w3) (j := 2) (by simp) (.int .u64 (.ofNat at1))).put (by simp only [wrAt_sts]; exact w3) (j := 6) (by simp) (.nilslice)).put (by simp only [wrAt_sts]; exact w3) (j := 7) (by simp) (.int .u64 (.ofNat 0)))
  ·have da : decide (0 < at1) = false := decide_eq_false qa
   rw [if_neg qa]
   refine rN ?_ (V t0<|V t1<|V t2<|V f0<|V f1<|V f2<|V f3<|V f4<|V f5<|V f6<|V f7<|V v2o<|V v2c<|V w2<|V h3e.symm<|V i0<|V i1<|V i2<|V i3<|V i4<|V i5<|V i6<|V i7<|V w3<|V so<|V hlen<|V ds<|V da<|wr1)
   refine (fun q => ⟨q.1, v2, q.2, hb2⟩) (fin _ (rev + 1) comp (by simp only [nx_sts, h3e]) (fun c hc => by simp only [get_sts _ _ _ _ hc, h3e]) (by simp only [g_sts, h3e]) (by simp only [wrAt_sts]; exact w3) ?_)
   exact (((C3'.put (w3) (j := 1) (by simp) (.int .u64 (.ofNat (rev + 1)))).put (by simp only [wrAt_sts]; exact w3) (j := 6) (by simp) (.nilslice)).put (by simp only [wrAt_sts]; exact w3) (j := 7) (by simp) (.int .u64 (.ofNat 0)))
set_option maxHeartbeats 4000000 in
theorem rCompC (h0 : H) (b : Nat) (L : List Rec) (rev comp : Nat) (v : AV) (S : List Rec) (sv : AV) (at1 : Nat) (s : SrAt h0 b L rev comp v S sv at1) (n : Nat) :
  PushC P (.enter 24 [.ptr b 0, .int .u64 (.ofNat n)] h0) fun u h' => u = .int .i64 (.ofNat (compS rev comp n).1) ∧ Og h0 h' [b] ∧ SrAt h' b L rev comp v [] .nilslice (if (compS rev comp n).1 = 0 then n else 0) := by
 have lt := s.lt
 obtain ⟨c0, c1, c2, c3, c4, c5, c6, c7⟩ := s.c.u8
 have wr := s.wr
 obtain ⟨h1, h1e⟩ : ∃ h1, h1 = (h0.sts b 6 [.nilslice]).sts b 7 [.int .u64 (.ofNat 0)] := ⟨_, rfl⟩
 have C1 := (s.c.put wr (j := 6) (by simp) .nilslice).put (by rw [wrAt_sts]; exact wr) (j := 7) (by simp) (.int .u64 (.ofNat 0))
 rw [Nat.zero_add, Nat.zero_add, ← h1e] at C1
 have C1' : CellsAt h1 b 0 [v, .int .u64 (.ofNat rev), .int .u64 (.ofNat comp), .int .u64 (.ofNat 0), .int .u64 (.ofNat 0), .nilslice, .nilslice, .int .u64 (.ofNat 0)] := C1
 have w1 : wrAt h1 b = true:= by rw [h1e, wrAt_sts, wrAt_sts]; exact wr
 obtain ⟨i0, i1, i2, i3, i4, i5, i6, i7⟩ := C1'.u8
 have fin : ∀ (h4 : H) (n : Nat), h4.nx = h0.nx → (∀ c, c ≠ b → h4.t.get c = h0.t.get c) → h4.g = h0.g → wrAt h4 b = true → CellsAt h4 b 0 [v, .int .u64 (.ofNat rev), .int .u64 (.ofNat comp), .int .u64 (.ofNat 0), .int .u64 (.ofNat 0), .nilslice, .nilslice, .int .u64 (.ofNat n)] → Og h0 h4 [b] ∧ SrAt h4 b L rev comp v [] .nilslice n := fun h4 n x4 k4 gg4 w4 C4 =>
  ⟨⟨⟨by omega, fun c hc hn => k4 c (by simpa using hn)⟩, gg4⟩, ⟨by omega, C4, w4, s.gv.of_get (by omega) (fun c e => k4 c (s.nv c e)), .none, .inl ⟨.inl rfl, rfl, rfl⟩, s.nv, fun c e => by cases e⟩⟩
 by_cases q1 : n ≤ comp
 ·have d1 : decide (n ≤ comp) = true := decide_eq_true q1
  have e : compS rev comp n = (9, comp):= by unfold compS; rw [if_pos q1]
  rw [e]
  refine pushC_of_codeW (fn := Try.f24) (c := bodyC Try.f24) Try.func24 rfl ?_
  show codeW P 24 27 none _ _ _ _ _
  refine codeW_root ?_
  refine rN ?_ (V c0<|V c1<|V c2<|V c3<|V c4<|V c5<|V c6<|V c7<|V wr<|V h1e.symm<|V i0<|V i1<|V i2<|V i3<|V i4<|V i5<|V i6<|V i7<|d1)
  exact fin h1 0 (by rw [h1e, nx_sts, nx_sts]) (fun c hc => by rw [h1e, get_sts _ _ _ _ hc, get_sts _ _ _ _ hc]) (by rw [h1e, g_sts, g_sts]) w1 C1'
 ·have d1 : decide (n ≤ comp) = false := decide_eq_false q1
  by_cases q2 : rev < n
  ·have d2 : decide (rev < n) = true := decide_eq_true q2
   have e : compS rev comp n = (10, comp):= by unfold compS; rw [if_neg q1, if_pos q2]
   rw [e]
   refine pushC_of_codeW (fn := Try.f24) (c := bodyC Try.f24) Try.func24 rfl ?_
   show codeW P 24 27 none _ _ _ _ _
   refine codeW_root ?_
   refine rN ?_ (V c0<|V c1<|V c2<|V c3<|V c4<|V c5<|V c6<|V c7<|V wr<|V h1e.symm<|V i0<|V i1<|V i2<|V i3<|V i4<|V i5<|V i6<|V i7<|V d1<|d2)
   exact fin h1 0 (by rw [h1e, nx_sts, nx_sts]) (fun c hc => by rw [h1e, get_sts _ _ _ _ hc, get_sts _ _ _ _ hc]) (by rw [h1e, g_sts, g_sts]) w1 C1'
  ·have d2 : decide (rev < n) = false := decide_eq_false q2
   have e : compS rev comp n = (0, n):= by unfold compS; rw [if_neg q1, if_neg q2]
   rw [e]
   refine pushC_of_codeW (fn := Try.f24) (c := bodyC Try.f24) Try.func24 rfl ?_
   show codeW P 24 27 none _ _ _ _ _
   refine codeW_root ?_
   refine rN ?_ (V c0<|V c1<|V c2<|V c3<|V c4<|V c5<|V c6<|V c7<|V wr<|V h1e.symm<|V i0<|V i1<|V i2<|V i3<|V i4<|V i5<|V i6<|V i7<|V d1<|V d2<|w1)
   have C2 := C1'.put w1 (j := 7) (by simp) (.int .u64 (.ofNat n))
   exact fin (h1.sts b 7 [.int .u64 (.ofNat n)]) n (by rw [nx_sts, h1e, nx_sts, nx_sts]) (fun c hc => by rw [get_sts _ _ _ _ hc, h1e, get_sts _ _ _ _ hc, get_sts _ _ _ _ hc]) (by rw [g_sts, h1e, g_sts, g_sts]) (by rw [wrAt_sts]; exact w1) C2
end
end Go.Proofs.Ytnedigoajoflaaa.M

namespace Go.Proofs.Ytnedigoajoflaaa.M
open Go Go.AX
noncomputable section
theorem getR_put (k a : List Nat) (r : Rec) : ∀ W : View, getR k (putV a r W) = if k = a then some r else getR k W
 | [] => by
  unfold putV getR
  rw [List.find?_cons]
  by_cases q : k = a <;> simp [q]
 | (b, x) :: W => by
  have ih := getR_put k a r W
  unfold putV
  by_cases q : a = b
  ·rw [if_pos q]
   unfold getR
   rw [List.find?_cons, List.find?_cons]
   by_cases q2 : k = a
   ·subst q; simp [q2]
   ·have : ¬ k = b := fun e => q2 (by rw [e, q])
    simp [q2, this]
  ·rw [if_neg q]
   unfold getR at ih ⊢
   rw [List.find?_cons, List.find?_cons]
   by_cases q2 : k = b
   ·have : ¬ k = a := fun e => q (by rw [← e, q2])
    simp [q2, this]
    intro e; exact absurd e (fun h => q h.symm)
   ·simp only [decide_eq_false q2]; exact ih
theorem getR_none {k : List Nat} : ∀ {W : View}, k ∉ W.map (·.1) → getR k W = none
 | [], _ => rfl
 | (b, x) :: W, h => by
  rw [List.map_cons, List.mem_cons, not_or] at h
  unfold getR
  rw [List.find?_cons]
  simp only [decide_eq_false h.1]
  exact getR_none h.2
theorem getR_del (k a : List Nat) : ∀ W : View, (W.map (·.1)).Nodup → getR k (delV a W) = if k = a then none else getR k W
 | [], _ => by
  unfold delV getR
  split <;> rfl
 | (b, x) :: W, h => by
  rw [List.map_cons, List.nodup_cons] at h
  have ih := getR_del k a W h.2
  unfold delV
  by_cases q : a = b
  ·rw [if_pos q]
   by_cases q2 : k = a
   ·rw [if_pos q2]
    exact getR_none (by rw [q2, q]; exact h.1)
   ·rw [if_neg q2]
    have : ¬ k = b := fun e => q2 (by rw [e, q])
    unfold getR
    rw [List.find?_cons]
    simp only [decide_eq_false this]
  ·rw [if_neg q]
   unfold getR at ih ⊢
   rw [List.find?_cons, List.find?_cons]
   by_cases q2 : k = b
   ·have : ¬ k = a := fun e => q (by rw [← e, q2])
    rw [if_neg this]
    simp [q2]
   ·simp only [decide_eq_false q2]; exact ih
theorem getR_lay {W : View} (nd : (W.map (·.1)).Nodup) (k : List Nat) (r : Rec) : getR k (layV W r) = if k = r.kv.key then (if r.tomb then none else some r) else getR k W := by
 unfold layV
 cases r.tomb with
 | true => rw [if_pos rfl, getR_del k _ W nd]; rfl
 | false => rw [if_neg (by simp), getR_put]; rfl
structure FiV (k : List Nat) (s : KV × Bool) (W : View) : Prop where
 nd : (W.map (·.1)).Nodup
 is : s.2 = (getR k W).isSome
 kv : ∀ r, getR k W = some r → s.1 = r.kv
theorem FiV.fold {k : List Nat} {m : Nat} : ∀ (L : List Rec) (s : KV × Bool) (W : View), FiV k s W → FiV k (L.foldl (fun s r => if r.kv.key = k ∧ r.main ≤ m then (r.kv, !r.tomb) else s) s) (L.foldl (fun W r => if r.main ≤ m then layV W r else W) W)
 | [], _, _, h => h
 | r :: L, s, W, h => by
  rw [List.foldl_cons, List.foldl_cons]
  refine FiV.fold L _ _ ?_
  by_cases q : r.main ≤ m
  ·rw [if_pos q]
   by_cases q2 : r.kv.key = k
   ·rw [if_pos ⟨q2, q⟩]
    refine ⟨layV_nd h.nd, ?_, fun x hx => ?_⟩
    ·rw [getR_lay h.nd, if_pos q2.symm]; cases r.tomb <;> rfl
    ·rw [getR_lay h.nd, if_pos q2.symm] at hx
     cases ht : r.tomb with
     | true => rw [ht] at hx; cases hx
     | false => rw [ht] at hx; cases hx; rfl
   ·rw [if_neg (fun e => q2 e.1)]
    refine ⟨layV_nd h.nd, ?_, fun x hx => ?_⟩
    ·rw [getR_lay h.nd, if_neg (fun e => q2 e.symm)]; exact h.is
    ·rw [getR_lay h.nd, if_neg (fun e => q2 e.symm)] at hx; exact h.kv x hx
  ·rw [if_neg q, if_neg (fun e => q e.2)]; exact h
theorem find_atV (k : List Nat) (m : Nat) (L : List Rec) : findP k m L = (getKV k (atV m L), (getR k (atV m L)).isSome) := by
 have h := FiV.fold (k := k) (m := m) L (kv0, false) [] ⟨List.nodup_nil, rfl, fun r h => by cases h⟩
 obtain ⟨nd, is, kv⟩ := h
 have es : findS k m L = L.foldl (fun s r => if r.kv.key = k ∧ r.main ≤ m then (r.kv, !r.tomb) else s) (kv0, false) := rfl
 have ea : atV m L = L.foldl (fun W r => if r.main ≤ m then layV W r else W) [] := rfl
 rw [← es, ← ea] at is
 rw [← es, ← ea] at kv
 unfold findP
 rw [is]
 unfold getKV
 cases q : getR k (atV m L) with
 | none => rfl
 | some r => rw [kv r q]; rfl
theorem ltN_iff : ∀ a b : List Nat, listLtB a b = true ↔ a < b
 | _, [] => by simp [listLtB]
 | [], y :: b => by simp [listLtB]
 | x :: a, y :: b => by
  have ih := ltN_iff a b
  simp only [listLtB]
  rw [List.cons_lt_cons_iff]
  cases h : Nat.blt x y with
  | true =>
   have : x < y := Nat.le_of_ble_eq_true h
   simp [this]
  | false =>
   have hn : ¬ x < y := fun e => by rw [show Nat.blt x y = true from Nat.ble_eq_true_of_le e] at h; cases h
   simp only
   cases h2 : Nat.beq x y with
   | true =>
    have e := Nat.eq_of_beq_eq_true h2
    subst e
    simp only [ih]
    simp
   | false =>
    have hne := Nat.ne_of_beq_eq_false h2
    simp [hn, hne]
theorem leN_le (a b : List Nat) : leN a b ↔ a ≤ b := by
 unfold leN
 rw [← List.not_lt, ← ltN_iff b a]
 simp
theorem insertN_sorted {s : List Nat} : ∀ {l : List (List Nat)}, l.Pairwise leN → (insertS s l).Pairwise leN
 | [], _ => by simp [insertS]
 | t :: l, h => by
  rw [List.pairwise_cons] at h
  simp only [insertS]
  cases hc : listLtB t s with
  | true =>
   simp only [List.pairwise_cons]
   refine ⟨fun x hx => ?_, insertN_sorted h.2⟩
   rcases mem_insertS.1 hx with rfl | hx
   ·rw [leN_le]; exact List.le_of_lt ((ltN_iff _ _).1 hc)
   ·exact h.1 x hx
  | false =>
   have hst : s ≤ t := (leN_le s t).1 hc
   simp only [List.pairwise_cons]
   refine ⟨fun x hx => ?_, h.1, h.2⟩
   rcases List.mem_cons.1 hx with rfl | hx
   ·exact hc
   ·rw [leN_le]; exact List.le_trans hst ((leN_le t x).1 (h.1 x hx))
theorem sortS_sorted : ∀ l : List (List Nat), (sortS l).Pairwise leN
 | [] => List.Pairwise.nil
 | s :: l => insertN_sorted (sortS_sorted l)
def Rise (l : List KV) : Prop := l.Pairwise fun x y => x.key < y.key
theorem rise_eq {a b : List KV} (ha : Rise a) (hb : Rise b) (h : ∀ x, x ∈ a ↔ x ∈ b) : a = b := by
 have nd : ∀ l : List KV, Rise l → l.Nodup := fun l hl => hl.imp (fun {x y} h e => by rw [e] at h; exact absurd h (List.lt_irrefl _))
 have hp : a.Perm b := (List.perm_ext_iff_of_nodup (nd a ha) (nd b hb)).2 h
 refine List.Perm.eq_of_pairwise (le := fun x y => x = y ∨ x.key < y.key) (fun x y _ _ h1 h2 => ?_) (ha.imp fun h => .inr h) (hb.imp fun h => .inr h) hp
 rcases h1 with rfl | h1
 ·rfl
 ·rcases h2 with rfl | h2
  ·rfl
  ·exact absurd (List.lt_trans h1 h2) (List.lt_irrefl _)
theorem getR_mem {k : List Nat} {W : View} {r : Rec} (h : getR k W = some r) : (k, r) ∈ W := by
 unfold getR at h
 obtain ⟨p, hp, e⟩ := Option.map_eq_some_iff.1 h
 have h1 := List.find?_some hp
 have h2 := List.mem_of_find?_eq_some hp
 have : p.1 = k := (of_decide_eq_true h1).symm
 rw [← this, ← e]; exact h2
theorem getR_isSome {k : List Nat} {W : View} : (getR k W).isSome = true ↔ k ∈ W.map (·.1) := by
 constructor
 ·intro h
  obtain ⟨r, hr⟩ := Option.isSome_iff_exists.1 h
  exact List.mem_map.2 ⟨_, getR_mem hr, rfl⟩
 ·intro h
  by_cases q : (getR k W).isSome = true
  ·exact q
  ·exfalso
   have : getR k W = none:= by simpa using q
   unfold getR at this
   rw [Option.map_eq_none_iff, List.find?_eq_none] at this
   obtain ⟨p, hp, e⟩ := List.mem_map.1 h
   have := this p hp
   simp [← e] at this
theorem getKV_key {k : List Nat} {W : View} (v : VOk W) (h : k ∈ W.map (·.1)) : (getKV k W).key = k := by
 obtain ⟨r, hr⟩ := Option.isSome_iff_exists.1 (getR_isSome.2 h)
 unfold getKV; rw [hr]
 exact (v.ky _ (getR_mem hr)).1
theorem inV_rise {W : View} (v : VOk W) (key fin : List Nat) : Rise (inV W key fin) := by
 unfold inV Rise
 rw [List.pairwise_map]
 have hs := sortS_sorted (W.map (·.1))
 have hp := sortS_perm (W.map (·.1))
 have nd : (sortS (W.map (·.1))).Nodup := hp.nodup_iff.2 v.nd
 have h2 : (sortS (W.map (·.1))).Pairwise (fun a b => a < b) := (hs.and nd).imp fun {a b} h => by
  have h1 := (leN_le a b).1 h.1
  exact Std.lt_of_le_of_ne h1 h.2
 have h3 := (h2.filter (fun k => liesB k key fin))
 refine h3.imp_of_mem fun {a b} ha hb h => ?_
 have ma : a ∈ W.map (·.1) := hp.mem_iff.1 ((List.mem_filter.1 ha).1)
 have mb : b ∈ W.map (·.1) := hp.mem_iff.1 ((List.mem_filter.1 hb).1)
 rw [getKV_key v ma, getKV_key v mb]; exact h
theorem inV_mem {W : View} (key fin : List Nat) (x : KV) : x ∈ inV W key fin ↔ ∃ k, k ∈ W.map (·.1) ∧ liesB k key fin = true ∧ x = getKV k W := by
 unfold inV
 rw [List.mem_map]
 constructor
 ·rintro ⟨k, hk, rfl⟩
  rw [List.mem_filter] at hk
  exact ⟨k, (sortS_perm _).mem_iff.1 hk.1, hk.2, rfl⟩
 ·rintro ⟨k, hk, hl, rfl⟩
  exact ⟨k, List.mem_filter.2 ⟨(sortS_perm _).mem_iff.2 hk, hl⟩, rfl⟩
end
end Go.Proofs.Ytnedigoajoflaaa.M

namespace Go.Proofs.Ytnedigoajoflaaa.M
open Go Go.AX
noncomputable section
theorem atK_take {k : List Nat} : ∀ {l : List KV} {a : KV}, a ∈ l.take (atK k l) → a.key < k
 | [], a, h => by simp at h
 | y :: l, a, h => by
  unfold atK at h
  split at h
  ·rename_i q
   rw [List.take_succ_cons, List.mem_cons] at h
   rcases h with rfl | h
   ·exact (ltN_iff _ _).1 q
   ·exact atK_take h
  ·simp at h
theorem atK_drop {k : List Nat} : ∀ {l : List KV}, Rise l → ∀ {b : KV}, b ∈ l.drop (atK k l) → k ≤ b.key ∧ (sameK k l = false → k < b.key)
 | [], _, b, h => by simp at h
 | y :: l, hr, b, h => by
  have hr' := List.pairwise_cons.1 hr
  unfold atK at h
  split at h
  ·rename_i q
   rw [List.drop_succ_cons] at h
   have ih := atK_drop (k := k) (l := l) hr'.2 h
   refine ⟨ih.1, fun hs => ih.2 ?_⟩
   unfold sameK at hs ⊢
   have e : atK k (y :: l) = atK k l + 1:= by conv => lhs; unfold atK; rw [if_pos q]
   rw [e, List.getElem?_cons_succ] at hs
   exact hs
  ·rename_i q
   rw [List.drop_zero] at h
   have hy : k ≤ y.key:= by rw [← List.not_lt, ← ltN_iff]; exact q
   have e : atK k (y :: l) = 0:= by conv => lhs; unfold atK; rw [if_neg q]
   have hyk : sameK k (y :: l) = false → k < y.key := fun hs => by
    unfold sameK at hs
    rw [e, List.getElem?_cons_zero] at hs
    exact Std.lt_of_le_of_ne hy (fun h => by simp [h] at hs)
   rcases List.mem_cons.1 h with rfl | h
   ·exact ⟨hy, hyk⟩
   ·have := hr'.1 b h
    exact ⟨List.le_of_lt (Std.lt_of_le_of_lt hy this), fun hs => List.lt_trans (hyk hs) this⟩
theorem insA_rise {x : KV} {l : List KV} (hr : Rise l) : Rise (insA x x.key l) := by
 unfold insA
 cases hs : sameK x.key l with
 | true => rw [if_pos rfl]; exact hr
 | false =>
  rw [if_neg (by simp)]
  unfold Rise
  rw [List.pairwise_append, List.pairwise_cons]
  refine ⟨hr.sublist (List.take_sublist _ _), ⟨fun b hb => (atK_drop hr hb).2 hs, hr.sublist (List.drop_sublist _ _)⟩, fun a ha b hb => ?_⟩
  have h1 := atK_take ha
  rcases List.mem_cons.1 hb with rfl | hb
  ·exact h1
  ·exact List.lt_trans h1 ((atK_drop hr hb).2 hs)
theorem insA_mem {x : KV} {l : List KV} (hs : sameK x.key l = false) (y : KV) : y ∈ insA x x.key l ↔ y = x ∨ y ∈ l := by
 unfold insA
 rw [if_neg (by simp [hs]), List.mem_append, List.mem_cons]
 have e : y ∈ l ↔ y ∈ l.take (atK x.key l) ∨ y ∈ l.drop (atK x.key l):= by rw [← List.mem_append, List.take_append_drop]
 rw [e]
 constructor
 ·rintro (h | h | h)
  ·exact .inr (.inl h)
  ·exact .inl h
  ·exact .inr (.inr h)
 ·rintro (h | h | h)
  ·exact .inr (.inl h)
  ·exact .inl h
  ·exact .inr (.inr h)
theorem sameK_mem {k : List Nat} {l : List KV} (hs : sameK k l = true) : ∃ y, y ∈ l ∧ y.key = k := by
 unfold sameK at hs
 split at hs
 ·rename_i y hy
  exact ⟨y, List.mem_of_getElem? hy, of_decide_eq_true hs⟩
 ·cases hs
structure AllI (W : View) (key fin : List Nat) (M : List Rec) (out : List KV) : Prop where
 rise : Rise out
 mem : ∀ x, x ∈ out ↔ ∃ r, r ∈ M ∧ (getR r.kv.key W).isSome = true ∧ liesB r.kv.key key fin = true ∧ x = getKV r.kv.key W
theorem stepA_ok {L : List Rec} {key fin : List Nat} {main : Nat} {M : List Rec} {out : List KV} (v : VOk (atV main L)) (h : AllI (atV main L) key fin M out) (r : Rec) : AllI (atV main L) key fin (M ++ [r]) (stepA L key fin main out r) := by
 unfold stepA
 rw [find_atV]
 simp only
 have nomem : ((getR r.kv.key (atV main L)).isSome && liesB r.kv.key key fin) = false → ∀ x, (x ∈ out ↔ ∃ r', r' ∈ M ++ [r] ∧ (getR r'.kv.key (atV main L)).isSome = true ∧ liesB r'.kv.key key fin = true ∧ x = getKV r'.kv.key (atV main L)) := fun hf x => by
  rw [h.mem]
  constructor
  ·rintro ⟨r', h1, h2⟩
   exact ⟨r', by simp [h1], h2⟩
  ·rintro ⟨r', h1, h2, h3, h4⟩
   rcases List.mem_append.1 h1 with q | q
   ·exact ⟨r', q, h2, h3, h4⟩
   ·rw [List.mem_singleton] at q; subst q
    rw [h2, h3] at hf; cases hf
 cases hc : ((getR r.kv.key (atV main L)).isSome && liesB r.kv.key key fin) with
 | false => rw [if_neg (by simp)]; exact ⟨h.rise, nomem hc⟩
 | true =>
  rw [if_pos rfl]
  rw [Bool.and_eq_true] at hc
  have hk := getKV_key v (getR_isSome.1 hc.1)
  have hr := insA_rise (x := getKV r.kv.key (atV main L)) h.rise
  rw [hk] at hr
  refine ⟨hr, fun x => ?_⟩
  cases hs : sameK r.kv.key out with
  | true =>
   have e : insA (getKV r.kv.key (atV main L)) r.kv.key out = out:= by unfold insA; rw [hs]; rfl
   rw [e, h.mem]
   constructor
   ·rintro ⟨r', h1, h2⟩
    exact ⟨r', by simp [h1], h2⟩
   ·rintro ⟨r', h1, h2, h3, h4⟩
    rcases List.mem_append.1 h1 with q | q
    ·exact ⟨r', q, h2, h3, h4⟩
    ·rw [List.mem_singleton] at q; subst q
     obtain ⟨y, hy, hyk⟩ := sameK_mem hs
     obtain ⟨r2, g1, g2, g3, g4⟩ := (h.mem y).1 hy
     have : r2.kv.key = r'.kv.key:= by rw [← hyk, g4, getKV_key v (getR_isSome.1 g2)]
     exact ⟨r2, g1, g2, g3, by rw [h4, this]⟩
  | false =>
   have hm := insA_mem (x := getKV r.kv.key (atV main L)) (l := out) (by rw [hk]; exact hs) x
   rw [hk] at hm
   rw [hm, h.mem]
   constructor
   ·rintro (rfl | ⟨r', h1, h2⟩)
    ·exact ⟨r, by simp, hc.1, hc.2, rfl⟩
    ·exact ⟨r', by simp [h1], h2⟩
   ·rintro ⟨r', h1, h2, h3, h4⟩
    rcases List.mem_append.1 h1 with q | q
    ·exact .inr ⟨r', q, h2, h3, h4⟩
    ·rw [List.mem_singleton] at q; subst q; exact .inl h4
theorem allS_ok {L : List Rec} {key fin : List Nat} {main : Nat} (v : VOk (atV main L)) : ∀ (M M0 : List Rec) (out : List KV), AllI (atV main L) key fin M0 out → AllI (atV main L) key fin (M0 ++ M) (M.foldl (stepA L key fin main) out)
 | [], M0, out, h => by rw [List.append_nil]; exact h
 | r :: M, M0, out, h => by
  rw [List.foldl_cons, show M0 ++ r :: M = (M0 ++ [r]) ++ M by simp]
  exact allS_ok v M _ _ (stepA_ok v h r)
theorem view_keys {main : Nat} : ∀ (L : List Rec) (W : View) (M : List Rec), (∀ k, k ∈ W.map (·.1) → ∃ r, r ∈ M ∧ r.kv.key = k) → ∀ k, k ∈ (L.foldl (fun W r => if r.main ≤ main then layV W r else W) W).map (·.1) → ∃ r, r ∈ M ++ L ∧ r.kv.key = k
 | [], W, M, h, k, hk => by rw [List.append_nil]; exact h k hk
 | r :: L, W, M, h, k, hk => by
  rw [List.foldl_cons] at hk
  have := view_keys L (if r.main ≤ main then layV W r else W) (M ++ [r]) (fun k hk => by
   split at hk
   ·obtain ⟨p, hp, rfl⟩ := List.mem_map.1 hk
    rcases layV_mem hp with rfl | q
    ·exact ⟨r, by simp, rfl⟩
    ·obtain ⟨r2, g1, g2⟩ := h p.1 (List.mem_map.2 ⟨p, q, rfl⟩)
     exact ⟨r2, by simp [g1], g2⟩
   ·obtain ⟨r2, g1, g2⟩ := h k hk
    exact ⟨r2, by simp [g1], g2⟩) k hk
  simpa using this
theorem all_inV {L : List Rec} {key fin : List Nat} {main : Nat} (hs : Short L) : allS L key fin main L = inV (atV main L) key fin := by
 have v := atV_ok (main := main) hs
 have h := allS_ok (key := key) (fin := fin) v L [] [] ⟨List.Pairwise.nil, fun x => by simp⟩
 rw [List.nil_append] at h
 refine rise_eq h.rise (inV_rise v key fin) fun x => ?_
 have hm := h.mem x
 refine hm.trans ?_
 rw [inV_mem]
 constructor
 ·rintro ⟨r, -, h2, h3, h4⟩
  exact ⟨_, getR_isSome.1 h2, h3, h4⟩
 ·rintro ⟨k, hk, hl, hx⟩
  obtain ⟨r, hr, rfl⟩ := view_keys (main := main) L [] [] (fun k hk => by simp at hk) k hk
  rw [List.nil_append] at hr
  exact ⟨r, hr, getR_isSome.2 hk, hl, hx⟩
end
end Go.Proofs.Ytnedigoajoflaaa.M

namespace Go.Proofs.Ytnedigoajoflaaa.M
open Go Go.AX
noncomputable section
set_option maxRecDepth 100000
structure DsH (h0 h : H) (b b3 b4 b5 : Nat) (L : List Rec) (rev comp : Nat) (v : AV) (rq : List AV) (err : Nat) (tk : Bool) (rw_ : AV) : Prop where
 s : SrAt h b L rev comp v [] .nilslice 0
 q : CellsAt h b3 0 rq
 a : CellsAt h b5 0 (ansC err rev comp tk rw_)
 w5 : wrAt h b5 = true
 oo : Og h0 h [b5]
 l3 : b3 < h.nx
 l5 : b5 < h.nx
 n3 : b3 ≠ b5
 n5 : b ≠ b5
 nv5 : ∀ c, blkOf v = some c → c ≠ b5
 a4 : CellsAt h b4 0 (ansC 0 0 0 false .nilslice)
 w4 : wrAt h b4 = true
 l4 : b4 < h.nx
 n4 : b4 ≠ b5
theorem DsH.keep {h0 h h' : H} {b b3 b4 b5 rev comp err : Nat} {L : List Rec} {v rw_ : AV} {rq : List AV} {tk : Bool} (d : DsH h0 h b b3 b4 b5 L rev comp v rq err tk rw_) (o : Og h h' []) : DsH h0 h' b b3 b4 b5 L rev comp v rq err tk rw_ :=
 ⟨d.s.keep o, gC d.q o d.l3 (by simp), gC d.a o d.l5 (by simp), kw d.w5 o d.l5 (by simp), ⟨⟨Nat.le_trans d.oo.1.1 o.1.1, fun c hc hn => (o.1.2 c (Nat.lt_of_lt_of_le hc d.oo.1.1) (by simp)).trans (d.oo.1.2 c hc hn)⟩, o.2.trans d.oo.2⟩, Nat.lt_of_lt_of_le d.l3 o.1.1, Nat.lt_of_lt_of_le d.l5 o.1.1, d.n3, d.n5, d.nv5, gC d.a4 o d.l4 (by simp), kw d.w4 o d.l4 (by simp), Nat.lt_of_lt_of_le d.l4 o.1.1, d.n4⟩
theorem DsH.put {h0 h : H} {b b3 b4 b5 rev comp err : Nat} {L : List Rec} {v rw_ : AV} {rq : List AV} {tk : Bool} (d : DsH h0 h b b3 b4 b5 L rev comp v rq err tk rw_) (e2 : Nat) : DsH h0 (h.sts b5 0 [.int .i64 (.ofNat e2)]) b b3 b4 b5 L rev comp v rq e2 tk rw_ := by
 have k : ∀ c, c ≠ b5 → (h.sts b5 0 [.int .i64 (.ofNat e2)]).t.get c = h.t.get c := fun c hc => get_sts _ _ _ _ hc
 have A := d.a.put d.w5 (j := 0) (by simp [ansC]) (.int .i64 (.ofNat e2))
 rw [Nat.zero_add] at A
 exact ⟨⟨by rw [nx_sts]; exact d.s.lt, d.s.c.of_get (k b d.n5), by rw [wrAt_of_get (k b d.n5)]; exact d.s.wr, d.s.gv.of_get (by rw [nx_sts]; exact Nat.le_refl _) (fun c e => k c (d.nv5 c e)), .none, .inl ⟨.inl rfl, rfl, rfl⟩, d.s.nv, d.s.ns⟩, d.q.of_get (k b3 d.n3), A, by rw [wrAt_sts]; exact d.w5, d.oo.sts (.inl (by simp)), by rw [nx_sts]; exact d.l3, by rw [nx_sts]; exact d.l5, d.n3, d.n5, d.nv5, d.a4.of_get (k b4 d.n4), by rw [wrAt_of_get (k b4 d.n4)]; exact d.w4, by rw [nx_sts]; exact d.l4, d.n4⟩
structure DcI (h0 : H) (b b3 b4 b5 : Nat) (L : List Rec) (rev comp : Nat) (v : AV) (rq : List AV) (cs : List Cmp) (m : Nat) (ds : List Nat) (tm : T AV) (h : H) (i : Nat) : Prop where
 ds : ds = []
 nn : m = cs.length - i
 ii : i ≤ cs.length
 t0 : tm.get 0 = some (.ptr b 0)
 t3 : tm.get 3 = some (.ptr b3 0)
 t4 : tm.get 4 = some (.ptr b4 0)
 t5 : tm.get 5 = some (.ptr b5 0)
 t6 : tm.get 6 = some (.bool ((cs.take i).all fun c => !failsB (atV rev L) c))
 t7 : tm.get 7 = some (.int .i64 (.ofNat i))
 hh : DsH h0 h b b3 b4 b5 L rev comp v rq 0 false .nilslice
set_option maxHeartbeats 8000000 in
theorem cmpsLoop (h0 h1 : H) (b b3 b4 b5 : Nat) (L : List Rec) (rev comp : Nat) (v : AV) (r : Rq) (vc vt ve : AV) (hh : DsH h0 h1 b b3 b4 b5 L rev comp v (r.cs vc vt ve) 0 false .nilslice) (sc : SliceAt h0 vc r.cmps.length (r.cmps.flatMap Cmp.cs)) (hz : r.cmps.length ≤ 1000000) (hzL : L.length ≤ 1000000) (nb : ∀ c, blkOf vc = some c → c ≠ b5)
  (tm : T AV) (t0 : tm.get 0 = some (.ptr b 0)) (t3 : tm.get 3 = some (.ptr b3 0)) (t4 : tm.get 4 = some (.ptr b4 0)) (t5 : tm.get 5 = some (.ptr b5 0)) (t6 : tm.get 6 = some (.bool true)) (K : KQ)
  (hN : ∀ tm2 h2, tm2.get 0 = some (.ptr b 0) → tm2.get 3 = some (.ptr b3 0) → tm2.get 4 = some (.ptr b4 0) → tm2.get 5 = some (.ptr b5 0) → tm2.get 6 = some (.bool (!r.cmps.any (failsB (atV rev L)))) → DsH h0 h2 b b3 b4 b5 L rev comp v (r.cs vc vt ve) 0 false .nilslice → K .norm [] tm2 h2) :
  codeW P 22 276 none (codeI (bodyC Try.f22) [0, 1, 1, 1, 1, 1, 1]) [] tm h1 K := by
 have hlen := sc.len (P := P) u28a
 have vo := sl_one sc
 refine rN ?_ (V t0<|V t3<|V t4<|V t5<|t6)
 refine st_loop (fun m ds tm h => ∃ i, DcI h0 b b3 b4 b5 L rev comp v (r.cs vc vt ve) r.cmps m ds tm h i) r.cmps.length rfl ⟨0, rfl, rfl, Nat.zero_le _, by simp only [B, xB, F, reduceLT, reduceLeDiff, reduceEqDiff, reduceAdd, reduceMul, reduceSub, ↓reduceIte, eq_self, t0], by simp only [B, xB, F, reduceLT, reduceLeDiff, reduceEqDiff, reduceAdd, reduceMul, reduceSub, ↓reduceIte, eq_self, t3], by simp only [B, xB, F, reduceLT, reduceLeDiff, reduceEqDiff, reduceAdd, reduceMul, reduceSub, ↓reduceIte, eq_self, t4], by simp only [B, xB, F, reduceLT, reduceLeDiff, reduceEqDiff, reduceAdd, reduceMul, reduceSub, ↓reduceIte, eq_self, t5], by simp only [B, xB, F, reduceLT, reduceLeDiff, reduceEqDiff, reduceAdd, reduceMul, reduceSub, ↓reduceIte, eq_self, t6]; rfl, by simp only [B, xB, F, reduceLT, reduceLeDiff, reduceEqDiff, reduceAdd, reduceMul, reduceSub, ↓reduceIte, eq_self], hh⟩ (fun m ds tm h hI => ?_)
 clear t0 t3 t4 t5 t6 hh
 obtain ⟨i, rfl, rfl, ii, t0, t3, t4, t5, t6, t7, hh⟩ := hI
 obtain ⟨y0, y1, y2, y3, y4, y5, y6, y7⟩ := hh.q.u8
 by_cases hi : i < r.cmps.length
 ·have di : decide (i < r.cmps.length) = true := decide_eq_true hi
  have lt1 : (i < r.cmps.length) = True:= by simp [hi]
  obtain ⟨x, hx⟩ : ∃ x, r.cmps[i]? = some x := ⟨_, List.getElem?_eq_getElem hi⟩
  have slh := SliceAt.only hh.oo.1 sc (fun c e => by simp; exact nb c e)
  obtain ⟨bv, ov, cv, rfl, hbv, -⟩ := slh.place (by omega)
  obtain ⟨q0, q1, q2, q3, q4⟩ := Cmp.at slh hx
  have w1 : wrapF .i64 (Int.ofNat i + Int.ofNat 1) = Int.ofNat (i + 1) := i64_add (by omega)
  obtain ⟨c0, c1, c2, c3, c4, c5, c6, c7⟩ := hh.s.c.u8
  obtain ⟨h1', h1e⟩ : ∃ h1', h1' = h.newCells 55 [.str [], .str [], .int .u64 (.ofNat 0), .int .u64 (.ofNat 0), .int .u64 (.ofNat 0)] := ⟨_, rfl⟩
  have o1 : Og h h1' []:= by rw [h1e]; exact (Og.refl _ _).new _ _
  have x1 : h1'.nx = h.nx + 1:= by rw [h1e]; rfl
  have D1 := hh.keep o1
  have Z1 : CellsAt h1' h.nx 0 [.str [], .str [], .int .u64 (.ofNat 0), .int .u64 (.ofNat 0), .int .u64 (.ofNat 0)]:= by rw [h1e]; exact CellsAt.new _ _ _
  have wz1 : wrAt h1' h.nx = true:= by rw [h1e]; exact wr_new _ _ _
  obtain ⟨c0a, c1a, -⟩ := D1.s.c.u8
  obtain ⟨y0a, y1a, y2a, y3a, y4a, y5a, y6a, y7a⟩ := D1.q.u8
  have sl1 := SliceAt.only o1.1 slh (fun _ _ => by simp)
  obtain ⟨q0a, q1a, q2a, q3a, q4a⟩ := Cmp.at sl1 hx
  have n1 : (b3 = h.nx) = False:= by have := hh.l3; simp; omega
  have n2 : (b = h.nx) = False:= by have := hh.s.lt; simp; omega
  have n3 : (bv = h.nx) = False:= by have := sl_lt slh bv rfl; simp; omega
  have fr1 : freshIs 55 [.str [], .str [], .int .u64 (.ofNat 0), .int .u64 (.ofNat 0), .int .u64 (.ofNat 0)] (h1'.t.get h.nx) = true:= by rw [h1e]; exact freshIs_new (by kernel_rfl)
  repeat' (first | ((with_reducible refine st1 ?_); (conv => whnf); (with_reducible refine ⟨?_⟩)) | ((with_reducible refine st_dp ord22_0 ?_ rfl rfl ?_); exact rfl; (conv => arg 4; whnf); (conv => arg 3; whnf)) | ((with_reducible refine st_dp ord22_1 ?_ rfl rfl ?_); exact rfl; (conv => arg 4; whnf); (conv => arg 3; whnf)) | ((with_reducible refine st_dp ord22_2 ?_ rfl rfl ?_); exact rfl; (conv => arg 4; whnf); (conv => arg 3; whnf)) | ((with_reducible refine st_dw ?_ rfl rfl ?_ ?_); exact rfl; kernel_rfl; (conv => arg 5; whnf); (conv => arg 3; whnf)) | ((with_reducible refine retW_intro rfl ?_); (conv => arg 2; whnf)) | ((with_reducible first | refine iB ?_ ?_ | refine gWt ?_ ?_ | refine gWf ?_ ?_ | refine gXt ?_ ?_ | refine gXf ?_ ?_) <;> intro hb <;> (try simp only [hb])) | ((with_reducible show drawP _ _ _ _ _ _ _ _ _); first | ((with_reducible apply kP_rd); exact rfl; exact rfl) | ((with_reducible apply kP_rg); exact rfl; exact rfl; exact rfl) | ((with_reducible apply kP_cv); exact rfl; exact rfl; kernel_rfl) | ((with_reducible apply kP_al); exact rfl; exact rfl; exact rfl) | ((with_reducible apply kP_fl); exact rfl; exact rfl; exact rfl) | ((with_reducible apply kP_ex); exact rfl; exact rfl; kernel_rfl; exact rfl) | ((with_reducible apply kP_eg); exact rfl; exact rfl; kernel_rfl; exact rfl) | ((with_reducible refine kP_nl ?_ ?_))) | ((with_reducible show drawI _ _ _ _ _ _ _ _ _); first | ((with_reducible refine kI_rd ?_ ?_); exact rfl) | ((with_reducible apply kI_rg); exact rfl; exact rfl) | ((with_reducible refine kI_cv ?_ ?_ ?_); exact rfl; kernel_rfl) | ((with_reducible apply kI_al); exact rfl; exact rfl) | ((with_reducible refine kI_ex ?_ ?_ ?_ ?_ ?_); exact rfl; kernel_rfl; exact rfl) | ((with_reducible apply kI_eg); exact rfl; kernel_rfl; exact rfl) | ((with_reducible refine kI_nl ?_ ?_))) | ((with_reducible show eOk _ _ _ _ _ _); first | (exact eok_nil) | (refine ke_rd ?_ ?_ ?_; exact rfl) | (apply ke_rg; exact rfl; exact rfl) | (refine ke_cv ?_ ?_ ?_ ?_; exact rfl; kernel_rfl) | (apply ke_fl; exact rfl) | (apply ke_al; exact rfl; exact rfl)) | ((with_reducible refine freshIs_new ?_); kernel_rfl) | (simp only [B, xB, F, reduceLT, reduceLeDiff, reduceEqDiff, reduceAdd, reduceMul, reduceSub, ↓reduceIte, eq_self, t0, t3, t4, t5, t6, t7, y4, hlen, vo, di, lt1, q0, c0, c1, ← h1e, c0a, c1a, y4a, q0a, fr1]))
  refine ((findC h1' v L x.key rev D1.s.gv.slice hzL).call P).mono P ?_
  rintro _ h2 ⟨rfl, o2⟩
  have D2 := D1.keep o2
  have e2 := find_atV x.key rev L
  obtain ⟨kv, hkv⟩ : ∃ kv, kv = getKV x.key (atV rev L) := ⟨_, rfl⟩
  obtain ⟨is, his⟩ : ∃ is, is = (getR x.key (atV rev L)).isSome := ⟨_, rfl⟩
  rw [e2, ← hkv, ← his]
  simp only
  have efs : failsB (atV rev L) x = !holdsB x kv is:= by unfold failsB; rw [hkv, his]
  have hall : ((r.cmps.take (i + 1)).all fun c => !failsB (atV rev L) c) = (((r.cmps.take i).all fun c => !failsB (atV rev L) c) && holdsB x kv is) := by
   rw [List.take_add_one, hx, List.all_append]
   simp [efs]
  have x2 := o2.1.1
  have fr2 : freshIs 55 [.str [], .str [], .int .u64 (.ofNat 0), .int .u64 (.ofNat 0), .int .u64 (.ofNat 0)] (h2.t.get h.nx) = true:= by rw [o2.1.2 h.nx (by omega) (by simp)]; exact fr1
  obtain ⟨u0, u1, u2, u3, u4⟩ := (gC Z1 o2 (by omega) (by simp)).u5
  have wz2 := kw wz1 o2 (by omega) (by simp)
  obtain ⟨h3, h3e⟩ : ∃ h3, h3 = h2.sts h.nx 0 [.str kv.key, .str kv.val, .int .u64 (.ofNat kv.cre), .int .u64 (.ofNat kv.mod), .int .u64 (.ofNat kv.ver)] := ⟨_, rfl⟩
  have K3 : CellsAt h3 h.nx 0 [.str kv.key, .str kv.val, .int .u64 (.ofNat kv.cre), .int .u64 (.ofNat kv.mod), .int .u64 (.ofNat kv.ver)]:= by rw [h3e]; exact CellsAt.sts wz2 _
  obtain ⟨z0, z1, z2, z3, z4⟩ := K3.u5
  have o3 : Og h h3 []:= by rw [h3e]; exact (o1.t o2).sts (.inr (Nat.le_refl _))
  have x3 : h3.nx = h2.nx:= by rw [h3e, nx_sts]
  have D3 := hh.keep o3
  obtain ⟨c0', c1', -⟩ := D2.s.c.u8
  obtain ⟨y0', y1', y2', y3', y4', y5', y6', y7'⟩ := D2.q.u8
  have sl2 := SliceAt.only o2.1 sl1 (fun _ _ => by simp)
  obtain ⟨q0', q1', q2', q3', q4'⟩ := Cmp.at sl2 hx
  obtain ⟨p0, p1, p2, p3, p4, p5, p6, p7⟩ := D3.q.u8
  have sl3 := SliceAt.only o3.1 slh (fun _ _ => by simp)
  obtain ⟨s0, s1, s2, s3, s4⟩ := Cmp.at sl3 hx
  unfold KV.cs
  cases htk : (r.cmps.take i).all fun c => !failsB (atV rev L) c with
  | false =>
   rw [htk] at t6 hall
   repeat' (first | ((with_reducible refine st1 ?_); (conv => whnf); (with_reducible refine ⟨?_⟩)) | ((with_reducible refine st_dp ord22_0 ?_ rfl rfl ?_); exact rfl; (conv => arg 4; whnf); (conv => arg 3; whnf)) | ((with_reducible refine st_dp ord22_1 ?_ rfl rfl ?_); exact rfl; (conv => arg 4; whnf); (conv => arg 3; whnf)) | ((with_reducible refine st_dp ord22_2 ?_ rfl rfl ?_); exact rfl; (conv => arg 4; whnf); (conv => arg 3; whnf)) | ((with_reducible refine st_dw ?_ rfl rfl ?_ ?_); exact rfl; kernel_rfl; (conv => arg 5; whnf); (conv => arg 3; whnf)) | ((with_reducible refine retW_intro rfl ?_); (conv => arg 2; whnf)) | ((with_reducible first | refine iB ?_ ?_ | refine gWt ?_ ?_ | refine gWf ?_ ?_ | refine gXt ?_ ?_ | refine gXf ?_ ?_) <;> intro hb <;> (try simp only [hb])) | ((with_reducible show drawP _ _ _ _ _ _ _ _ _); first | ((with_reducible apply kP_rd); exact rfl; exact rfl) | ((with_reducible apply kP_rg); exact rfl; exact rfl; exact rfl) | ((with_reducible apply kP_cv); exact rfl; exact rfl; kernel_rfl) | ((with_reducible apply kP_al); exact rfl; exact rfl; exact rfl) | ((with_reducible apply kP_fl); exact rfl; exact rfl; exact rfl) | ((with_reducible apply kP_ex); exact rfl; exact rfl; kernel_rfl; exact rfl) | ((with_reducible apply kP_eg); exact rfl; exact rfl; kernel_rfl; exact rfl) | ((with_reducible refine kP_nl ?_ ?_))) | ((with_reducible show drawI _ _ _ _ _ _ _ _ _); first | ((with_reducible refine kI_rd ?_ ?_); exact rfl) | ((with_reducible apply kI_rg); exact rfl; exact rfl) | ((with_reducible refine kI_cv ?_ ?_ ?_); exact rfl; kernel_rfl) | ((with_reducible apply kI_al); exact rfl; exact rfl) | ((with_reducible refine kI_ex ?_ ?_ ?_ ?_ ?_); exact rfl; kernel_rfl; exact rfl) | ((with_reducible apply kI_eg); exact rfl; kernel_rfl; exact rfl) | ((with_reducible refine kI_nl ?_ ?_))) | ((with_reducible show eOk _ _ _ _ _ _); first | (exact eok_nil) | (refine ke_rd ?_ ?_ ?_; exact rfl) | (apply ke_rg; exact rfl; exact rfl) | (refine ke_cv ?_ ?_ ?_ ?_; exact rfl; kernel_rfl) | (apply ke_fl; exact rfl) | (apply ke_al; exact rfl; exact rfl)) | ((with_reducible refine freshIs_new ?_); kernel_rfl) | (simp only [B, xB, F, reduceLT, reduceLeDiff, reduceEqDiff, reduceAdd, reduceMul, reduceSub, ↓reduceIte, eq_self, t0, t3, t4, t5, t6, t7, y4, y4', hlen, vo, lt1, q0', c0', c1', u0, u1, u2, u3, u4, wz2, fr2, ← h3e, w1]))
   exact ⟨r.cmps.length - (i + 1), by omega, i + 1, rfl, rfl, by omega, by exact sT, by exact sT, by exact sT, by exact sT, by rw [hall]; simp only [B, xB, F, reduceLT, reduceLeDiff, reduceEqDiff, reduceAdd, reduceMul, reduceSub, ↓reduceIte, eq_self, Bool.false_and], by exact sT, D3⟩
  | true =>
   rw [htk] at t6 hall
   repeat' (first | ((with_reducible refine st1 ?_); (conv => whnf); (with_reducible refine ⟨?_⟩)) | ((with_reducible refine st_dp ord22_0 ?_ rfl rfl ?_); exact rfl; (conv => arg 4; whnf); (conv => arg 3; whnf)) | ((with_reducible refine st_dp ord22_1 ?_ rfl rfl ?_); exact rfl; (conv => arg 4; whnf); (conv => arg 3; whnf)) | ((with_reducible refine st_dp ord22_2 ?_ rfl rfl ?_); exact rfl; (conv => arg 4; whnf); (conv => arg 3; whnf)) | ((with_reducible refine st_dw ?_ rfl rfl ?_ ?_); exact rfl; kernel_rfl; (conv => arg 5; whnf); (conv => arg 3; whnf)) | ((with_reducible refine retW_intro rfl ?_); (conv => arg 2; whnf)) | ((with_reducible first | refine iB ?_ ?_ | refine gWt ?_ ?_ | refine gWf ?_ ?_ | refine gXt ?_ ?_ | refine gXf ?_ ?_) <;> intro hb <;> (try simp only [hb])) | ((with_reducible show drawP _ _ _ _ _ _ _ _ _); first | ((with_reducible apply kP_rd); exact rfl; exact rfl) | ((with_reducible apply kP_rg); exact rfl; exact rfl; exact rfl) | ((with_reducible apply kP_cv); exact rfl; exact rfl; kernel_rfl) | ((with_reducible apply kP_al); exact rfl; exact rfl; exact rfl) | ((with_reducible apply kP_fl); exact rfl; exact rfl; exact rfl) | ((with_reducible apply kP_ex); exact rfl; exact rfl; kernel_rfl; exact rfl) | ((with_reducible apply kP_eg); exact rfl; exact rfl; kernel_rfl; exact rfl) | ((with_reducible refine kP_nl ?_ ?_))) | ((with_reducible show drawI _ _ _ _ _ _ _ _ _); first | ((with_reducible refine kI_rd ?_ ?_); exact rfl) | ((with_reducible apply kI_rg); exact rfl; exact rfl) | ((with_reducible refine kI_cv ?_ ?_ ?_); exact rfl; kernel_rfl) | ((with_reducible apply kI_al); exact rfl; exact rfl) | ((with_reducible refine kI_ex ?_ ?_ ?_ ?_ ?_); exact rfl; kernel_rfl; exact rfl) | ((with_reducible apply kI_eg); exact rfl; kernel_rfl; exact rfl) | ((with_reducible refine kI_nl ?_ ?_))) | ((with_reducible show eOk _ _ _ _ _ _); first | (exact eok_nil) | (refine ke_rd ?_ ?_ ?_; exact rfl) | (apply ke_rg; exact rfl; exact rfl) | (refine ke_cv ?_ ?_ ?_ ?_; exact rfl; kernel_rfl) | (apply ke_fl; exact rfl) | (apply ke_al; exact rfl; exact rfl)) | ((with_reducible refine freshIs_new ?_); kernel_rfl) | (simp only [B, xB, F, reduceLT, reduceLeDiff, reduceEqDiff, reduceAdd, reduceMul, reduceSub, ↓reduceIte, eq_self, t0, t3, t4, t5, t6, t7, y4, y4', hlen, vo, lt1, q0', c0', c1', u0, u1, u2, u3, u4, wz2, fr2, ← h3e, p4, s0, s1, s2, s3, s4, z0, z1, z2, z3, z4]))
   refine ((rHoldsC h3 x kv is).call P).mono P ?_
   rintro _ h4 ⟨rfl, o4⟩
   have D4 := D3.keep o4
   obtain ⟨p0', p1', p2', p3', p4', p5', p6', p7'⟩ := D4.q.u8
   have sl4 := SliceAt.only o4.1 sl3 (fun _ _ => by simp)
   obtain ⟨s0', s1', s2', s3', s4'⟩ := Cmp.at sl4 hx
   obtain ⟨z0', z1', z2', z3', z4'⟩ := (gC (CellsAt.m5 z0 z1 z2 z3 z4) o4 (by omega) (by simp)).u5
   repeat' (first | ((with_reducible refine st1 ?_); (conv => whnf); (with_reducible refine ⟨?_⟩)) | ((with_reducible refine st_dp ord22_0 ?_ rfl rfl ?_); exact rfl; (conv => arg 4; whnf); (conv => arg 3; whnf)) | ((with_reducible refine st_dp ord22_1 ?_ rfl rfl ?_); exact rfl; (conv => arg 4; whnf); (conv => arg 3; whnf)) | ((with_reducible refine st_dp ord22_2 ?_ rfl rfl ?_); exact rfl; (conv => arg 4; whnf); (conv => arg 3; whnf)) | ((with_reducible refine st_dw ?_ rfl rfl ?_ ?_); exact rfl; kernel_rfl; (conv => arg 5; whnf); (conv => arg 3; whnf)) | ((with_reducible refine retW_intro rfl ?_); (conv => arg 2; whnf)) | ((with_reducible first | refine iB ?_ ?_ | refine gWt ?_ ?_ | refine gWf ?_ ?_ | refine gXt ?_ ?_ | refine gXf ?_ ?_) <;> intro hb <;> (try simp only [hb])) | ((with_reducible show drawP _ _ _ _ _ _ _ _ _); first | ((with_reducible apply kP_rd); exact rfl; exact rfl) | ((with_reducible apply kP_rg); exact rfl; exact rfl; exact rfl) | ((with_reducible apply kP_cv); exact rfl; exact rfl; kernel_rfl) | ((with_reducible apply kP_al); exact rfl; exact rfl; exact rfl) | ((with_reducible apply kP_fl); exact rfl; exact rfl; exact rfl) | ((with_reducible apply kP_ex); exact rfl; exact rfl; kernel_rfl; exact rfl) | ((with_reducible apply kP_eg); exact rfl; exact rfl; kernel_rfl; exact rfl) | ((with_reducible refine kP_nl ?_ ?_))) | ((with_reducible show drawI _ _ _ _ _ _ _ _ _); first | ((with_reducible refine kI_rd ?_ ?_); exact rfl) | ((with_reducible apply kI_rg); exact rfl; exact rfl) | ((with_reducible refine kI_cv ?_ ?_ ?_); exact rfl; kernel_rfl) | ((with_reducible apply kI_al); exact rfl; exact rfl) | ((with_reducible refine kI_ex ?_ ?_ ?_ ?_ ?_); exact rfl; kernel_rfl; exact rfl) | ((with_reducible apply kI_eg); exact rfl; kernel_rfl; exact rfl) | ((with_reducible refine kI_nl ?_ ?_))) | ((with_reducible show eOk _ _ _ _ _ _); first | (exact eok_nil) | (refine ke_rd ?_ ?_ ?_; exact rfl) | (apply ke_rg; exact rfl; exact rfl) | (refine ke_cv ?_ ?_ ?_ ?_; exact rfl; kernel_rfl) | (apply ke_fl; exact rfl) | (apply ke_al; exact rfl; exact rfl)) | ((with_reducible refine freshIs_new ?_); kernel_rfl) | (simp only [B, xB, F, reduceLT, reduceLeDiff, reduceEqDiff, reduceAdd, reduceMul, reduceSub, ↓reduceIte, eq_self, t0, t3, t4, t5, t6, t7, hlen, vo, lt1, p4', s0', s1', s2', s3', s4', z0', z1', z2', z3', z4', w1]))
   exact ⟨r.cmps.length - (i + 1), by omega, i + 1, rfl, rfl, by omega, by exact sT, by exact sT, by exact sT, by exact sT, by rw [hall]; simp only [B, xB, F, reduceLT, reduceLeDiff, reduceEqDiff, reduceAdd, reduceMul, reduceSub, ↓reduceIte, eq_self, Bool.true_and], by exact sT, D4⟩
 ·have di : decide (i < r.cmps.length) = false := decide_eq_false hi
  obtain rfl : i = r.cmps.length:= by omega
  rw [List.take_length] at t6
  refine rN ?_ (V t0<|V t3<|V t4<|V t5<|V t6<|V t7<|V y4<|V hlen<|V vo<|di)
  have e : (r.cmps.all fun c => !failsB (atV rev L) c) = !r.cmps.any (failsB (atV rev L)) := by
   rw [Bool.eq_iff_iff, List.all_eq_true, Bool.not_eq_true', List.any_eq_false]
   simp
  exact hN _ _ (by exact sT) (by exact sT) (by exact sT) (by exact sT) (by simp only [B, xB, F, reduceLT, reduceLeDiff, reduceEqDiff, reduceAdd, reduceMul, reduceSub, ↓reduceIte, eq_self, t6, e]) hh
end
end Go.Proofs.Ytnedigoajoflaaa.M

namespace Go.Proofs.Ytnedigoajoflaaa.M
open Go Go.AX
noncomputable section
set_option maxRecDepth 100000
structure RetH (h0 h : H) (b b4 b5 : Nat) (L : List Rec) (rev comp : Nat) (v : AV) (err r2 : Nat) (tk : Bool) (rw_ : AV) : Prop where
 s : SrAt h b L rev comp v [] .nilslice 0
 a4 : CellsAt h b4 0 (ansC err r2 comp tk rw_)
 oo : ∀ c, c < h0.nx → c ≠ b4 → c ≠ b5 → h.t.get c = h0.t.get c
 nx : h0.nx ≤ h.nx
 g : h.g = h0.g
theorem DsH.ret {h0 h h' : H} {b b3 b4 b5 rev comp err : Nat} {L : List Rec} {v rw_ : AV} {rq : List AV} {tk : Bool} (d : DsH h0 h b b3 b4 b5 L rev comp v rq err tk rw_) (e : h' = h.sts b4 0 (ansC err rev comp tk rw_)) (hb : b ≠ b4) (hv : ∀ c, blkOf v = some c → c ≠ b4) : RetH h0 h' b b4 b5 L rev comp v err rev tk rw_ := by
 subst e
 have k : ∀ c, c ≠ b4 → (h.sts b4 0 (ansC err rev comp tk rw_)).t.get c = h.t.get c := fun c hc => get_sts _ _ _ _ hc
 exact ⟨⟨by rw [nx_sts]; exact d.s.lt, d.s.c.of_get (k b hb), by rw [wrAt_of_get (k b hb)]; exact d.s.wr, d.s.gv.of_get (by rw [nx_sts]; exact Nat.le_refl _) (fun c e => k c (hv c e)), .none, .inl ⟨.inl rfl, rfl, rfl⟩, d.s.nv, d.s.ns⟩, CellsAt.sts d.w4 _, fun c hc h4 h5 => by rw [k c h4]; exact d.oo.1.2 c hc (by simp [h5]), by rw [nx_sts]; exact d.oo.1.1, by rw [g_sts]; exact d.oo.2⟩
structure DwI (h0 : H) (b b3 b4 b5 : Nat) (L : List Rec) (rev comp : Nat) (v : AV) (rq : List AV) (tk : Bool) (l : List Op) (va : AV) (m : Nat) (ds : List Nat) (tm : T AV) (h : H) (i : Nat) : Prop where
 ds : ds = []
 nn : m = l.length - i
 ii : i ≤ l.length
 t0 : tm.get 0 = some (.ptr b 0)
 t4 : tm.get 4 = some (.ptr b4 0)
 t5 : tm.get 5 = some (.ptr b5 0)
 t6 : tm.get 6 = some (.bool tk)
 t10 : tm.get 10 = some va
 t11 : tm.get 11 = some (.int .i64 (.ofNat i))
 no : ∀ j x, j < i → l[j]? = some x → whenO x rev comp = 0
 hh : DsH h0 h b b3 b4 b5 L rev comp v rq 0 false .nilslice
set_option maxHeartbeats 4000000 in
theorem rWhenLoop (h0 h1 : H) (b b3 b4 b5 : Nat) (L : List Rec) (rev comp : Nat) (v : AV) (rq : List AV) (tk : Bool) (l : List Op) (va : AV) (hh : DsH h0 h1 b b3 b4 b5 L rev comp v rq 0 false .nilslice) (sl : SliceAt h0 va l.length (l.flatMap Op.cs)) (hz : l.length ≤ 1000000) (nb : ∀ c, blkOf va = some c → c ≠ b5) (hb4 : b ≠ b4) (hv4 : ∀ c, blkOf v = some c → c ≠ b4) (hk : ∀ op, op ∈ l → ∃ kd : Nat, op.kind = Int.ofNat kd ∧ kd < 3)
  (tm : T AV) (t0 : tm.get 0 = some (.ptr b 0)) (t4 : tm.get 4 = some (.ptr b4 0)) (t5 : tm.get 5 = some (.ptr b5 0)) (t6 : tm.get 6 = some (.bool tk)) (t10 : tm.get 10 = some va) (K : KQ)
  (hR : ∀ tm2 h2, tm2.get 4 = some (.ptr b4 0) → RetH h0 h2 b b4 b5 L rev comp v (firstW rev comp l) rev false .nilslice → firstW rev comp l ≠ 0 → K .ret [] tm2 h2)
  (hN : ∀ tm2 h2, tm2.get 0 = some (.ptr b 0) → tm2.get 4 = some (.ptr b4 0) → tm2.get 5 = some (.ptr b5 0) → tm2.get 6 = some (.bool tk) → tm2.get 10 = some va → DsH h0 h2 b b3 b4 b5 L rev comp v rq 0 false .nilslice → firstW rev comp l = 0 → K .norm [] tm2 h2) :
  codeW P 22 276 none (codeI (bodyC Try.f22) [0, 1, 1, 1, 1, 1, 1, 1, 1, 1, 1]) [] tm h1 K := by
 have hlen := sl.len (P := P) u29a
 have vo := sl_one sl
 refine rN ?_ (V t0<|V t4<|V t5<|V t6<|t10)
 refine st_loop (fun m ds tm h => ∃ i, DwI h0 b b3 b4 b5 L rev comp v rq tk l va m ds tm h i) l.length rfl ⟨0, rfl, rfl, Nat.zero_le _, by exact sT, by exact sT, by exact sT, by exact sT, by exact sT, by exact sT, fun j x hj => absurd hj (by omega), hh⟩ (fun m ds tm h hI => ?_)
 clear t0 t4 t5 t6 t10 hh
 obtain ⟨i, rfl, rfl, ii, t0, t4, t5, t6, t10, t11, no, hh⟩ := hI
 by_cases hi : i < l.length
 ·have di : decide (i < l.length) = true := decide_eq_true hi
  have lt1 : (i < l.length) = True:= by simp [hi]
  obtain ⟨x, hx⟩ : ∃ x, l[i]? = some x := ⟨_, List.getElem?_eq_getElem hi⟩
  have slh := SliceAt.only hh.oo.1 sl (fun c e => by simp; exact nb c e)
  have slh0 := slh
  obtain ⟨bv, ov, cv, rfl, hbv, -⟩ := slh.place (by omega)
  obtain ⟨q0, q1, q2, q3, q4, q5, q6, q7, q8⟩ := Op.at slh hx
  have w1 : wrapF .i64 (Int.ofNat i + Int.ofNat 1) = Int.ofNat (i + 1) := i64_add (by omega)
  obtain ⟨kd, hkd, h3⟩ := hk x (List.mem_of_getElem? hx)
  rw [hkd] at q0
  have next : whenO x rev comp = 0 → ∀ tm2 h2, DsH h0 h2 b b3 b4 b5 L rev comp v rq 0 false .nilslice → tm2.get 0 = some (.ptr b 0) → tm2.get 4 = some (.ptr b4 0) → tm2.get 5 = some (.ptr b5 0) → tm2.get 6 = some (.bool tk) → tm2.get 10 = some (.slice bv ov l.length cv) → tm2.get 11 = some (.int .i64 (.ofNat (i + 1))) →
    ∃ m, m < l.length - i ∧ ∃ i, DwI h0 b b3 b4 b5 L rev comp v rq tk l (.slice bv ov l.length cv) m [] tm2 h2 i := fun hw tm2 h2 D g0 g4 g5 g6 g10 g11 =>
   ⟨l.length - (i + 1), by omega, i + 1, rfl, rfl, by omega, g0, g4, g5, g6, g10, g11, fun j y hj hy => by
    by_cases ej : j < i
    ·exact no j y ej hy
    ·obtain rfl : j = i:= by omega
     rw [hx] at hy; cases hy; exact hw, D⟩
  by_cases k0 : kd = 0
  ·subst k0
   have hw : whenO x rev comp = whenR x.rev rev comp:= by unfold whenO; rw [if_pos (by rw [hkd]; rfl)]
   obtain ⟨c0, c1, c2, c3, c4, c5, c6, c7⟩ := hh.s.c.u8
   refine rN ?_ (V t0<|V t4<|V t5<|V t6<|V t10<|V t11<|V hlen<|V vo<|V di<|V lt1<|V q0<|q4)
   refine ((rWhenC h b x.rev rev comp ⟨c1, c2⟩).call P).mono P ?_
   rintro _ h2 ⟨rfl, o2⟩
   have D2 := hh.keep o2
   rw [← hw]
   obtain ⟨e, he⟩ : ∃ e, e = whenO x rev comp := ⟨_, rfl⟩
   rw [← he]
   by_cases qe : e = 0
   ·have de : decide (e = 0) = true := decide_eq_true qe
    refine rN ?_ (V de<|V @Bool.not_true<|V t11<|w1)
    exact next (by rw [← he]; exact qe) _ _ D2 (by exact sT) (by exact sT) (by exact sT) (by exact sT) (by exact sT) (by exact sT)
   ·have de : decide (e = 0) = false := decide_eq_false qe
    have sl2 := SliceAt.only o2.1 slh0 (fun _ _ => by simp)
    obtain ⟨p0, p1, p2, p3, p4, p5, p6, p7, p8⟩ := Op.at sl2 hx
    obtain ⟨c0', c1', c2', -⟩ := D2.s.c.u8
    have ef : firstW rev comp l = e:= by rw [he]; exact firstW_at hx no (by rw [← he]; exact qe)
    refine rN ?_ (V de<|V @Bool.not_false<|V t0<|V t4<|V t5<|V t10<|V t11<|V lt1<|p4)
    refine ((rWhenC h2 b x.rev rev comp ⟨c1', c2'⟩).call P).mono P ?_
    rintro _ h3 ⟨rfl, o3⟩
    have D3 := D2.keep o3
    rw [← hw, ← he]
    have D4 := D3.put e
    obtain ⟨h4, h4e⟩ : ∃ h4, h4 = h3.sts b5 0 [.int .i64 (.ofNat e)] := ⟨_, rfl⟩
    rw [← h4e] at D4
    obtain ⟨a0, -⟩ := D3.a.u9
    have w5 := D3.w5
    obtain ⟨b0, b1, b2, b3', b4', b5', b6, b7, b8⟩ := D4.a.u9
    obtain ⟨f0, f1, f2, f3, f4, f5, f6, f7, f8⟩ := D4.a4.u9
    have w4 := D4.w4
    obtain ⟨h5, h5e⟩ : ∃ h5, h5 = h4.sts b4 0 (ansC e rev comp false .nilslice) := ⟨_, rfl⟩
    have rt := D4.ret h5e hb4 hv4
    unfold ansC at h5e
    refine rN ?_ (V t5<|V t4<|V a0<|V w5<|V h4e.symm<|V b0<|V b1<|V b2<|V b3'<|V b4'<|V b5'<|V b6<|V b7<|V b8<|V f0<|V f1<|V f2<|V f3<|V f4<|V f5<|V f6<|V f7<|V f8<|V w4<|h5e.symm)
    exact hR _ _ (by exact sT) (by rw [ef]; exact rt) (by rw [ef]; exact qe)
  ·have hw : whenO x rev comp = 0:= by unfold whenO; rw [if_neg (by rw [hkd]; intro h; exact k0 (Int.ofNat.inj h))]
   have dk : decide (kd = 0) = false := decide_eq_false k0
   refine rN ?_ (V t0<|V t4<|V t5<|V t6<|V t10<|V t11<|V hlen<|V vo<|V di<|V lt1<|V q0<|V dk<|w1)
   exact next hw _ _ hh (by exact sT) (by exact sT) (by exact sT) (by exact sT) (by exact sT) (by exact sT)
 ·have di : decide (i < l.length) = false := decide_eq_false hi
  obtain rfl : i = l.length:= by omega
  refine rN ?_ (V t0<|V t4<|V t5<|V t6<|V t10<|V t11<|V hlen<|V vo<|di)
  exact hN _ _ (by exact sT) (by exact sT) (by exact sT) (by exact sT) (by exact sT) hh (firstW_ok fun j x hj => no j x (List.getElem?_eq_some_iff.1 hj).1 hj)
end
end Go.Proofs.Ytnedigoajoflaaa.M

namespace Go.Proofs.Ytnedigoajoflaaa.M
open Go Go.AX
noncomputable section
set_option maxRecDepth 100000
structure OpR (hk h2 : H) (b16 base : Nat) (L R' : List Rec) (r : Res) (wa wa' k p : AV) : Prop where
 z : CellsAt h2 b16 0 (r.cs k p)
 ga : Grows 8 base h2 wa' (L ++ R').length ((L ++ R').flatMap Rec.cs)
 ks : SliceAt h2 k r.kvs.length (r.kvs.flatMap KV.cs)
 ps : SliceAt h2 p r.prev.length (r.prev.flatMap KV.cs)
 kb : ∀ c, blkOf k = some c → hk.nx ≤ c ∧ blkOf wa' ≠ some c
 pb : ∀ c, blkOf p = some c → hk.nx ≤ c ∧ blkOf wa' ≠ some c
 nx : hk.nx ≤ h2.nx
 old : ∀ c, c < hk.nx → c ≠ b16 → blkOf wa ≠ some c → h2.t.get c = hk.t.get c
 nw : ∀ c, blkOf wa' = some c → blkOf wa = some c ∨ hk.nx ≤ c
 g : h2.g = hk.g
theorem atV_skip {m rev : Nat} {L R : List Rec} (h : m ≤ rev) (hR : ∀ x, x ∈ R → x.main = rev + 1) : atV m (L ++ R) = atV m L := by
 unfold atV
 rw [List.foldl_append]
 have : ∀ (R : List Rec) (W : View), (∀ x, x ∈ R → x.main = rev + 1) → R.foldl (fun W r => if r.main ≤ m then layV W r else W) W = W := by
  intro R
  induction R with
  | nil => intro W _; rfl
  | cons a R ih =>
   intro W hR
   rw [List.foldl_cons, if_neg (by have := hR a (by simp); omega)]
   exact ih W fun x hx => hR x (by simp [hx])
 exact this R _ hR
set_option maxHeartbeats 8000000 in
theorem op0C (hk : H) (b b15 b16 base : Nat) (L R : List Rec) (rev : Nat) (wa : AV) (op : Op) (Y : CellsAt hk b15 0 op.cs) (Z : CellsAt hk b16 0 [.nilslice, .bool false, .int .i64 (.ofNat 0), .int .i64 (.ofNat 0), .nilslice]) (wz : wrAt hk b16 = true)
  (ga : Grows 8 base hk wa (L ++ R).length ((L ++ R).flatMap Rec.cs)) (l15 : b15 < hk.nx) (l16 : b16 < hk.nx) (n16 : b15 ≠ b16) (na : ∀ c, blkOf wa = some c → c ≠ b16) (hkd : op.kind = Int.ofNat 0) (hs : Short (L ++ R)) (hz : (L ++ R).length ≤ 800000) (hrv : op.rev ≤ rev) (hR : ∀ x, x ∈ R → x.main = rev + 1)
  (tm : T AV) (t12 : tm.get 12 = some (.int .u64 (.ofNat (rev + 1)))) (t13 : tm.get 13 = some wa) (t15 : tm.get 15 = some (.ptr b15 0)) (t16 : tm.get 16 = some (.ptr b16 0)) (K : KQ)
  (hK : ∀ tm2 h2 wa' k p, (∀ j, j ≤ 16 → j ≠ 13 → tm2.get j = tm.get j) → tm2.get 13 = some wa' → OpR hk h2 b16 base L (opS rev L R op).2 (opS rev L R op).1 wa wa' k p → K .norm [] tm2 h2) :
  codeW P 22 276 none (codeI (bodyC Try.f22) [0, 1, 1, 0, 0, 1, 0, 0, 1, 0, 1, 1, 1, 1, 1, 1, 1, 1, 1, 1, 1, 1, 1, 1, 1]) [] tm hk K := by
 have eo : opS rev L R op = (resS op (inV (rangeV rev L R op) op.key op.fin), R):= by unfold opS; rw [if_pos (by rw [hkd]; rfl)]
 rw [eo] at hK
 obtain ⟨y0, y1, y2, y3, y4, y5, y6, y7, y8⟩ := CellsAt.u9 (show CellsAt hk b15 0 [.int .i64 op.kind, .str op.key, .str op.fin, .str op.val, .int .u64 (.ofNat op.rev), .int .i64 op.limit, .bool op.count, .bool op.keys, .bool op.prev] from Y)
 have wo := ga.one
 have rest : ∀ m : Nat, atV m (L ++ R) = rangeV rev L R op → ∀ tm2 : T AV, (∀ j, j ≤ 16 → tm2.get j = tm.get j) → tm2.get 17 = some (.int .u64 (.ofNat m)) → ∀ K' : KQ, (∀ tm3 h2, (∀ j, j ≤ 16 → tm3.get j = tm.get j) → (∃ k, OpR hk h2 b16 base L R (resS op (inV (rangeV rev L R op) op.key op.fin)) wa wa k .nilslice) → K' .norm [] tm3 h2) →
   codeW P 22 276 none (codeI (bodyC Try.f22) [1, 1, 0, 1, 0, 1, 0, 1, 1, 0, 0, 1, 0, 0, 1, 0, 1, 1, 1, 1, 1, 1, 1, 1, 1, 1, 1, 1, 1, 1, 1]) [] tm2 hk K' := by
  intro m em tm2 htm u17 K' hK'
  have u13 : tm2.get 13 = some wa := (htm 13 (by omega)).trans t13
  have u15 : tm2.get 15 = some (.ptr b15 0) := (htm 15 (by omega)).trans t15
  have u16 : tm2.get 16 = some (.ptr b16 0) := (htm 16 (by omega)).trans t16
  repeat' (first | ((with_reducible refine st1 ?_); (conv => whnf); (with_reducible refine ⟨?_⟩)) | ((with_reducible refine st_dp ord22_0 ?_ rfl rfl ?_); exact rfl; (conv => arg 4; whnf); (conv => arg 3; whnf)) | ((with_reducible refine st_dp ord22_1 ?_ rfl rfl ?_); exact rfl; (conv => arg 4; whnf); (conv => arg 3; whnf)) | ((with_reducible refine st_dp ord22_2 ?_ rfl rfl ?_); exact rfl; (conv => arg 4; whnf); (conv => arg 3; whnf)) | ((with_reducible refine st_dw ?_ rfl rfl ?_ ?_); exact rfl; kernel_rfl; (conv => arg 5; whnf); (conv => arg 3; whnf)) | ((with_reducible refine retW_intro rfl ?_); (conv => arg 2; whnf)) | ((with_reducible first | refine iB ?_ ?_ | refine gWt ?_ ?_ | refine gWf ?_ ?_ | refine gXt ?_ ?_ | refine gXf ?_ ?_) <;> intro hb <;> (try simp only [hb])) | ((with_reducible show drawP _ _ _ _ _ _ _ _ _); first | ((with_reducible apply kP_rd); exact rfl; exact rfl) | ((with_reducible apply kP_rg); exact rfl; exact rfl; exact rfl) | ((with_reducible apply kP_cv); exact rfl; exact rfl; kernel_rfl) | ((with_reducible apply kP_al); exact rfl; exact rfl; exact rfl) | ((with_reducible apply kP_fl); exact rfl; exact rfl; exact rfl) | ((with_reducible apply kP_ex); exact rfl; exact rfl; kernel_rfl; exact rfl) | ((with_reducible apply kP_eg); exact rfl; exact rfl; kernel_rfl; exact rfl) | ((with_reducible refine kP_nl ?_ ?_))) | ((with_reducible show drawI _ _ _ _ _ _ _ _ _); first | ((with_reducible refine kI_rd ?_ ?_); exact rfl) | ((with_reducible apply kI_rg); exact rfl; exact rfl) | ((with_reducible refine kI_cv ?_ ?_ ?_); exact rfl; kernel_rfl) | ((with_reducible apply kI_al); exact rfl; exact rfl) | ((with_reducible refine kI_ex ?_ ?_ ?_ ?_ ?_); exact rfl; kernel_rfl; exact rfl) | ((with_reducible apply kI_eg); exact rfl; kernel_rfl; exact rfl) | ((with_reducible refine kI_nl ?_ ?_))) | ((with_reducible show eOk _ _ _ _ _ _); first | (exact eok_nil) | (refine ke_rd ?_ ?_ ?_; exact rfl) | (apply ke_rg; exact rfl; exact rfl) | (refine ke_cv ?_ ?_ ?_ ?_; exact rfl; kernel_rfl) | (apply ke_fl; exact rfl) | (apply ke_al; exact rfl; exact rfl)) | ((with_reducible refine freshIs_new ?_); kernel_rfl) | (simp only [B, xB, F, reduceLT, reduceLeDiff, reduceEqDiff, reduceAdd, reduceMul, reduceSub, ↓reduceIte, eq_self, u13, u15, u16, u17, y0, y1, y2, y3, y4, y5, y6, y7, y8, wo]))
  refine ((allC hk wa (L ++ R) op.key op.fin m ga.slice (by omega)).call P).mono P ?_
  rintro va h1 ⟨o1, g1⟩
  rw [all_inV hs, em] at g1
  have x1 := o1.1.1
  have vo := g1.one
  have Y1 := gC Y o1 l15 (by simp)
  obtain ⟨z0, z1, z2, z3, z4, z5, z6, z7, z8⟩ := CellsAt.u9 (show CellsAt h1 b15 0 [.int .i64 op.kind, .str op.key, .str op.fin, .str op.val, .int .u64 (.ofNat op.rev), .int .i64 op.limit, .bool op.count, .bool op.keys, .bool op.prev] from Y1)
  repeat' (first | ((with_reducible refine st1 ?_); (conv => whnf); (with_reducible refine ⟨?_⟩)) | ((with_reducible refine st_dp ord22_0 ?_ rfl rfl ?_); exact rfl; (conv => arg 4; whnf); (conv => arg 3; whnf)) | ((with_reducible refine st_dp ord22_1 ?_ rfl rfl ?_); exact rfl; (conv => arg 4; whnf); (conv => arg 3; whnf)) | ((with_reducible refine st_dp ord22_2 ?_ rfl rfl ?_); exact rfl; (conv => arg 4; whnf); (conv => arg 3; whnf)) | ((with_reducible refine st_dw ?_ rfl rfl ?_ ?_); exact rfl; kernel_rfl; (conv => arg 5; whnf); (conv => arg 3; whnf)) | ((with_reducible refine retW_intro rfl ?_); (conv => arg 2; whnf)) | ((with_reducible first | refine iB ?_ ?_ | refine gWt ?_ ?_ | refine gWf ?_ ?_ | refine gXt ?_ ?_ | refine gXf ?_ ?_) <;> intro hb <;> (try simp only [hb])) | ((with_reducible show drawP _ _ _ _ _ _ _ _ _); first | ((with_reducible apply kP_rd); exact rfl; exact rfl) | ((with_reducible apply kP_rg); exact rfl; exact rfl; exact rfl) | ((with_reducible apply kP_cv); exact rfl; exact rfl; kernel_rfl) | ((with_reducible apply kP_al); exact rfl; exact rfl; exact rfl) | ((with_reducible apply kP_fl); exact rfl; exact rfl; exact rfl) | ((with_reducible apply kP_ex); exact rfl; exact rfl; kernel_rfl; exact rfl) | ((with_reducible apply kP_eg); exact rfl; exact rfl; kernel_rfl; exact rfl) | ((with_reducible refine kP_nl ?_ ?_))) | ((with_reducible show drawI _ _ _ _ _ _ _ _ _); first | ((with_reducible refine kI_rd ?_ ?_); exact rfl) | ((with_reducible apply kI_rg); exact rfl; exact rfl) | ((with_reducible refine kI_cv ?_ ?_ ?_); exact rfl; kernel_rfl) | ((with_reducible apply kI_al); exact rfl; exact rfl) | ((with_reducible refine kI_ex ?_ ?_ ?_ ?_ ?_); exact rfl; kernel_rfl; exact rfl) | ((with_reducible apply kI_eg); exact rfl; kernel_rfl; exact rfl) | ((with_reducible refine kI_nl ?_ ?_))) | ((with_reducible show eOk _ _ _ _ _ _); first | (exact eok_nil) | (refine ke_rd ?_ ?_ ?_; exact rfl) | (apply ke_rg; exact rfl; exact rfl) | (refine ke_cv ?_ ?_ ?_ ?_; exact rfl; kernel_rfl) | (apply ke_fl; exact rfl) | (apply ke_al; exact rfl; exact rfl)) | ((with_reducible refine freshIs_new ?_); kernel_rfl) | (simp only [B, xB, F, reduceLT, reduceLeDiff, reduceEqDiff, reduceAdd, reduceMul, reduceSub, ↓reduceIte, eq_self, u13, u15, u16, u17, z0, z1, z2, z3, z4, z5, z6, z7, z8, wo, vo]))
  have hln : (inV (rangeV rev L R op) op.key op.fin).length ≤ 1000000 := by
   rw [← em]
   have h1 := inV_len (atV m (L ++ R)) op.key op.fin
   have h2 := atV_len (main := m) hs
   omega
  refine ((rResC h1 op va _ hk.nx g1 hln).call P).mono P ?_
  rintro _ h2 ⟨o2, k, hv, g2⟩
  obtain ⟨r, hr⟩ : ∃ r, r = resS op (inV (rangeV rev L R op) op.key op.fin) := ⟨_, rfl⟩
  have hpr : r.prev = []:= by rw [hr]; unfold resS; split <;> rfl
  rw [← hr] at hv g2 hK'
  unfold Res.cs at hv
  subst hv
  have x2 := o2.1.1
  have g2o := g2.one
  have g2c := g2.cells
  have o12 := o1.t o2
  have Y2 := gC Y o12 l15 (by simp)
  obtain ⟨p0, p1, p2, p3, p4, p5, p6, p7, p8⟩ := CellsAt.u9 (show CellsAt h2 b15 0 [.int .i64 op.kind, .str op.key, .str op.fin, .str op.val, .int .u64 (.ofNat op.rev), .int .i64 op.limit, .bool op.count, .bool op.keys, .bool op.prev] from Y2)
  obtain ⟨q0, q1, q2, q3, q4⟩ := (gC Z o12 l16 (by simp)).u5
  have w2 := kw wz o12 l16 (by simp)
  obtain ⟨h3, h3e⟩ : ∃ h3, h3 = h2.sts b16 0 [k, .bool r.more, .int .i64 (.ofNat r.cnt), .int .i64 (.ofNat r.del), .nilslice] := ⟨_, rfl⟩
  have Z3 : CellsAt h3 b16 0 (r.cs k .nilslice):= by rw [h3e]; exact CellsAt.sts w2 _
  have k3 : ∀ c, c ≠ b16 → h3.t.get c = h2.t.get c := fun c hc => by rw [h3e, get_sts _ _ _ _ hc]
  have x3 : h3.nx = h2.nx:= by rw [h3e, nx_sts]
  repeat' (first | ((with_reducible refine st1 ?_); (conv => whnf); (with_reducible refine ⟨?_⟩)) | ((with_reducible refine st_dp ord22_0 ?_ rfl rfl ?_); exact rfl; (conv => arg 4; whnf); (conv => arg 3; whnf)) | ((with_reducible refine st_dp ord22_1 ?_ rfl rfl ?_); exact rfl; (conv => arg 4; whnf); (conv => arg 3; whnf)) | ((with_reducible refine st_dp ord22_2 ?_ rfl rfl ?_); exact rfl; (conv => arg 4; whnf); (conv => arg 3; whnf)) | ((with_reducible refine st_dw ?_ rfl rfl ?_ ?_); exact rfl; kernel_rfl; (conv => arg 5; whnf); (conv => arg 3; whnf)) | ((with_reducible refine retW_intro rfl ?_); (conv => arg 2; whnf)) | ((with_reducible first | refine iB ?_ ?_ | refine gWt ?_ ?_ | refine gWf ?_ ?_ | refine gXt ?_ ?_ | refine gXf ?_ ?_) <;> intro hb <;> (try simp only [hb])) | ((with_reducible show drawP _ _ _ _ _ _ _ _ _); first | ((with_reducible apply kP_rd); exact rfl; exact rfl) | ((with_reducible apply kP_rg); exact rfl; exact rfl; exact rfl) | ((with_reducible apply kP_cv); exact rfl; exact rfl; kernel_rfl) | ((with_reducible apply kP_al); exact rfl; exact rfl; exact rfl) | ((with_reducible apply kP_fl); exact rfl; exact rfl; exact rfl) | ((with_reducible apply kP_ex); exact rfl; exact rfl; kernel_rfl; exact rfl) | ((with_reducible apply kP_eg); exact rfl; exact rfl; kernel_rfl; exact rfl) | ((with_reducible refine kP_nl ?_ ?_))) | ((with_reducible show drawI _ _ _ _ _ _ _ _ _); first | ((with_reducible refine kI_rd ?_ ?_); exact rfl) | ((with_reducible apply kI_rg); exact rfl; exact rfl) | ((with_reducible refine kI_cv ?_ ?_ ?_); exact rfl; kernel_rfl) | ((with_reducible apply kI_al); exact rfl; exact rfl) | ((with_reducible refine kI_ex ?_ ?_ ?_ ?_ ?_); exact rfl; kernel_rfl; exact rfl) | ((with_reducible apply kI_eg); exact rfl; kernel_rfl; exact rfl) | ((with_reducible refine kI_nl ?_ ?_))) | ((with_reducible show eOk _ _ _ _ _ _); first | (exact eok_nil) | (refine ke_rd ?_ ?_ ?_; exact rfl) | (apply ke_rg; exact rfl; exact rfl) | (refine ke_cv ?_ ?_ ?_ ?_; exact rfl; kernel_rfl) | (apply ke_fl; exact rfl) | (apply ke_al; exact rfl; exact rfl)) | ((with_reducible refine freshIs_new ?_); kernel_rfl) | (simp only [B, xB, F, reduceLT, reduceLeDiff, reduceEqDiff, reduceAdd, reduceMul, reduceSub, ↓reduceIte, eq_self, u13, u15, u16, u17, p0, p1, p2, p3, p4, p5, p6, p7, p8, q0, q1, q2, q3, q4, w2, g2o, g2c, ← h3e]))
  have hkb : ∀ c, blkOf k = some c → h1.nx ≤ c ∧ c < h2.nx := fun c e => g2.base e
  have hwl : ∀ c, blkOf wa = some c → c < hk.nx := fun c e => (ga.base e).2
  refine hK' _ _ (fun j hj => ?_) ⟨k, Z3, ?_, g2.slice.move (by omega) (fun c e => k3 c (by have := hkb c e; omega)), by rw [hpr]; exact .none, fun c e => ⟨by have := hkb c e; omega, fun e2 => by have := hkb c e; have := hwl c e2; omega⟩, fun c e => (by cases e), by omega, fun c hc hn _ => by rw [k3 c hn, o12.1.2 c hc (by simp)], fun c e => .inl e, by rw [h3e, g_sts, o12.2]⟩
  ·repeat (rw [T.get_set, if_neg (by omega)])
   exact htm j hj
  ·exact ga.of_get (by omega) (fun c e => by rw [k3 c (na c e), o12.1.2 c (hwl c e) (by simp)])
 rw [hkd] at y0
 by_cases q : op.rev = 0
 ·have d1 : decide (op.rev = 0) = true := decide_eq_true q
  have em : atV (rev + 1) (L ++ R) = rangeV rev L R op:= by unfold rangeV; rw [if_neg (by omega)]
  repeat' (first | (with_reducible refine stopC [1, 1, 0, 1, 0, 1, 0, 1, 1, 0, 0, 1, 0, 0, 1, 0, 1, 1, 1, 1, 1, 1, 1, 1, 1, 1, 1, 1, 1, 1, 1] ?_) | ((with_reducible refine st1 ?_); (conv => whnf); (with_reducible refine ⟨?_⟩)) | ((with_reducible refine retW_intro rfl ?_); (conv => arg 2; whnf)) | ((with_reducible first | refine iB ?_ ?_ | refine gWt ?_ ?_ | refine gWf ?_ ?_) <;> intro hb <;> (try simp only [hb])) | (simp only [B, xB, F, reduceLT, reduceLeDiff, reduceEqDiff, reduceAdd, reduceMul, reduceSub, ↓reduceIte, eq_self, t12, t13, t15, t16, y0, y1, y2, y3, y4, y5, y6, y7, y8, d1]))
  refine ⟨?_⟩
  refine rest _ em _ (fun j hj => by repeat (rw [T.get_set, if_neg (by omega)])) (by exact sT) _ ?_
  rintro tm3 h2 htm ⟨k, ok⟩
  refine rN0 ?_
  exact hK _ _ wa k .nilslice (fun j hj _ => htm j hj) ((htm 13 (by omega)).trans t13) ok
 ·have d1 : decide (op.rev = 0) = false := decide_eq_false q
  have em : atV op.rev (L ++ R) = rangeV rev L R op:= by unfold rangeV; rw [if_pos (by omega)]; exact atV_skip hrv hR
  repeat' (first | (with_reducible refine stopC [1, 1, 0, 1, 0, 1, 0, 1, 1, 0, 0, 1, 0, 0, 1, 0, 1, 1, 1, 1, 1, 1, 1, 1, 1, 1, 1, 1, 1, 1, 1] ?_) | ((with_reducible refine st1 ?_); (conv => whnf); (with_reducible refine ⟨?_⟩)) | ((with_reducible refine retW_intro rfl ?_); (conv => arg 2; whnf)) | ((with_reducible first | refine iB ?_ ?_ | refine gWt ?_ ?_ | refine gWf ?_ ?_) <;> intro hb <;> (try simp only [hb])) | (simp only [B, xB, F, reduceLT, reduceLeDiff, reduceEqDiff, reduceAdd, reduceMul, reduceSub, ↓reduceIte, eq_self, t12, t13, t15, t16, y0, y1, y2, y3, y4, y5, y6, y7, y8, d1]))
  refine ⟨?_⟩
  refine rest _ em _ (fun j hj => by repeat (rw [T.get_set, if_neg (by omega)])) (by exact sT) _ ?_
  rintro tm3 h2 htm ⟨k, ok⟩
  refine rN0 ?_
  exact hK _ _ wa k .nilslice (fun j hj _ => htm j hj) ((htm 13 (by omega)).trans t13) ok
end
end Go.Proofs.Ytnedigoajoflaaa.M

namespace Go.Proofs.Ytnedigoajoflaaa.M
open Go Go.AX
noncomputable section
set_option maxRecDepth 100000
theorem put1C (hk : H) (b b16 b20 base : Nat) (L R : List Rec) (rev : Nat) (v wa : AV) (kv : KV) (Kc : CellsAt hk b20 0 kv.cs) (cb : cellAt hk b 0 = some v) (hlen : ∀ (h' : H) (ts : List TypeId) (xs : List AV), builtinA P .len (45 :: ts) (v :: xs) h' = .val (.int .i64 (.ofNat L.length)) h') (vo : v.one = true)
  (ga : Grows 8 base hk wa (L ++ R).length ((L ++ R).flatMap Rec.cs)) (lb : b < hk.nx) (l20 : b20 < hk.nx) (hbase : base ≤ hk.nx) (hz : (L ++ R).length ≤ 800000)
  (tm : T AV) (t0 : tm.get 0 = some (.ptr b 0)) (t12 : tm.get 12 = some (.int .u64 (.ofNat (rev + 1)))) (t13 : tm.get 13 = some wa) (t20 : tm.get 20 = some (.ptr b20 0)) (K : KQ)
  (hK : ∀ tm2 h2 wa', (∀ j, j ≤ 16 → j ≠ 13 → tm2.get j = tm.get j) → tm2.get 13 = some wa' → Grows 8 base h2 wa' (L ++ (R ++ [mkR rev R kv false])).length ((L ++ (R ++ [mkR rev R kv false])).flatMap Rec.cs) → hk.nx ≤ h2.nx → (∀ c, c < hk.nx → blkOf wa ≠ some c → h2.t.get c = hk.t.get c) → (∀ c, blkOf wa' = some c → hk.nx ≤ c) → h2.g = hk.g → K .norm [] tm2 h2) :
  codeW P 22 276 none (codeI (bodyC Try.f22) [1, 1, 1, 1, 0, 1, 1, 1, 0, 1, 0, 1, 1, 0, 0, 1, 0, 0, 1, 0, 1, 1, 1, 1, 1, 1, 1, 1, 1, 1, 1, 1, 1, 1, 1]) [] tm hk K := by
 obtain ⟨y0, y1, y2, y3, y4⟩ := Kc.u5
 have wo := ga.one
 have hla := ga.slice.len (P := P) u45a
 have ws : wrapF .i64 (Int.ofNat (L ++ R).length - Int.ofNat L.length) = Int.ofNat R.length := by
  rw [i64_sub (by rw [List.length_append]; omega) (by omega), List.length_append]; congr 1; omega
 have wu : wrapF .u64 (Int.ofNat R.length) = Int.ofNat R.length := u64_id (by rw [List.length_append] at hz; omega)
 obtain ⟨h3, h3e⟩ : ∃ h3, h3 = hk.newCells 94 [.int .u64 (.ofNat (rev + 1)), .int .u64 (.ofNat R.length), .str kv.key, .str kv.val, .int .u64 (.ofNat kv.cre), .int .u64 (.ofNat kv.mod), .int .u64 (.ofNat kv.ver), .bool false] := ⟨_, rfl⟩
 have o3 : Og hk h3 []:= by rw [h3e]; exact (Og.refl _ _).new _ _
 have x3 : h3.nx = hk.nx + 1:= by rw [h3e]; rfl
 have hrow : h3.row hk.nx 0 8 = some (mkR rev R kv false).cs := row_ok (o := 0) (cs := (mkR rev R kv false).cs) (fun j hj => by rw [h3e, cellAt_new, Nat.zero_add, if_pos rfl]; rfl) (by simp [Rec.cs])
 have ga3 : Grows 8 base h3 wa _ _ := ga.of_get (by omega) (fun c e => o3.1.2 c (ga.base e).2 (by simp))
 have cb3 := kc cb o3 lb (by simp)
 obtain ⟨z0, z1, z2, z3, z4⟩ := (gC Kc o3 l20 (by simp)).u5
 repeat' (first | ((with_reducible refine st1 ?_); (conv => whnf); (with_reducible refine ⟨?_⟩)) | ((with_reducible refine st_dp ord22_0 ?_ rfl rfl ?_); exact rfl; (conv => arg 4; whnf); (conv => arg 3; whnf)) | ((with_reducible refine st_dp ord22_1 ?_ rfl rfl ?_); exact rfl; (conv => arg 4; whnf); (conv => arg 3; whnf)) | ((with_reducible refine st_dp ord22_2 ?_ rfl rfl ?_); exact rfl; (conv => arg 4; whnf); (conv => arg 3; whnf)) | ((with_reducible refine st_dw ?_ rfl rfl ?_ ?_); exact rfl; kernel_rfl; (conv => arg 5; whnf); (conv => arg 3; whnf)) | ((with_reducible refine retW_intro rfl ?_); (conv => arg 2; whnf)) | ((with_reducible first | refine iB ?_ ?_ | refine gWt ?_ ?_ | refine gWf ?_ ?_ | refine gXt ?_ ?_ | refine gXf ?_ ?_) <;> intro hb <;> (try simp only [hb])) | ((with_reducible show drawP _ _ _ _ _ _ _ _ _); first | ((with_reducible apply kP_rd); exact rfl; exact rfl) | ((with_reducible apply kP_rg); exact rfl; exact rfl; exact rfl) | ((with_reducible apply kP_cv); exact rfl; exact rfl; kernel_rfl) | ((with_reducible apply kP_al); exact rfl; exact rfl; exact rfl) | ((with_reducible apply kP_fl); exact rfl; exact rfl; exact rfl) | ((with_reducible apply kP_ex); exact rfl; exact rfl; kernel_rfl; exact rfl) | ((with_reducible apply kP_eg); exact rfl; exact rfl; kernel_rfl; exact rfl) | ((with_reducible refine kP_nl ?_ ?_))) | ((with_reducible show drawI _ _ _ _ _ _ _ _ _); first | ((with_reducible refine kI_rd ?_ ?_); exact rfl) | ((with_reducible apply kI_rg); exact rfl; exact rfl) | ((with_reducible refine kI_cv ?_ ?_ ?_); exact rfl; kernel_rfl) | ((with_reducible apply kI_al); exact rfl; exact rfl) | ((with_reducible refine kI_ex ?_ ?_ ?_ ?_ ?_); exact rfl; kernel_rfl; exact rfl) | ((with_reducible apply kI_eg); exact rfl; kernel_rfl; exact rfl) | ((with_reducible refine kI_nl ?_ ?_))) | ((with_reducible show eOk _ _ _ _ _ _); first | (exact eok_nil) | (refine ke_rd ?_ ?_ ?_; exact rfl) | (apply ke_rg; exact rfl; exact rfl) | (refine ke_cv ?_ ?_ ?_ ?_; exact rfl; kernel_rfl) | (apply ke_fl; exact rfl) | (apply ke_al; exact rfl; exact rfl)) | ((with_reducible refine freshIs_new ?_); kernel_rfl) | (simp only [B, xB, F, reduceLT, reduceLeDiff, reduceEqDiff, reduceAdd, reduceMul, reduceSub, ↓reduceIte, eq_self, t0, t12, t13, t20, cb, vo, wo, hlen, hla, ws, wu, y0, y1, y2, y3, y4, ← h3e, hrow, cb3, z0, z1, z2, z3, z4]))
 refine exW_growsG (m := 1) (new := (mkR rev R kv false).cs) ga3 (by omega) (by omega) (by omega) rfl (by omega) (fun v7 h7 g7 x7 old7 bl7 gg7 => ?_)
 have g7o := g7.one
 have cb7 : cellAt h7 b 0 = some v ∨ blkOf wa = some b := by
  by_cases q : blkOf wa = some b
  ·exact .inr q
  ·exact .inl (by rw [cellAt_of_get (old7 b (by omega) q)]; exact cb3)
 repeat' (first | ((with_reducible refine st1 ?_); (conv => whnf); (with_reducible refine ⟨?_⟩)) | ((with_reducible refine st_dp ord22_0 ?_ rfl rfl ?_); exact rfl; (conv => arg 4; whnf); (conv => arg 3; whnf)) | ((with_reducible refine st_dp ord22_1 ?_ rfl rfl ?_); exact rfl; (conv => arg 4; whnf); (conv => arg 3; whnf)) | ((with_reducible refine st_dp ord22_2 ?_ rfl rfl ?_); exact rfl; (conv => arg 4; whnf); (conv => arg 3; whnf)) | ((with_reducible refine st_dw ?_ rfl rfl ?_ ?_); exact rfl; kernel_rfl; (conv => arg 5; whnf); (conv => arg 3; whnf)) | ((with_reducible refine retW_intro rfl ?_); (conv => arg 2; whnf)) | ((with_reducible first | refine iB ?_ ?_ | refine gWt ?_ ?_ | refine gWf ?_ ?_ | refine gXt ?_ ?_ | refine gXf ?_ ?_) <;> intro hb <;> (try simp only [hb])) | ((with_reducible show drawP _ _ _ _ _ _ _ _ _); first | ((with_reducible apply kP_rd); exact rfl; exact rfl) | ((with_reducible apply kP_rg); exact rfl; exact rfl; exact rfl) | ((with_reducible apply kP_cv); exact rfl; exact rfl; kernel_rfl) | ((with_reducible apply kP_al); exact rfl; exact rfl; exact rfl) | ((with_reducible apply kP_fl); exact rfl; exact rfl; exact rfl) | ((with_reducible apply kP_ex); exact rfl; exact rfl; kernel_rfl; exact rfl) | ((with_reducible apply kP_eg); exact rfl; exact rfl; kernel_rfl; exact rfl) | ((with_reducible refine kP_nl ?_ ?_))) | ((with_reducible show drawI _ _ _ _ _ _ _ _ _); first | ((with_reducible refine kI_rd ?_ ?_); exact rfl) | ((with_reducible apply kI_rg); exact rfl; exact rfl) | ((with_reducible refine kI_cv ?_ ?_ ?_); exact rfl; kernel_rfl) | ((with_reducible apply kI_al); exact rfl; exact rfl) | ((with_reducible refine kI_ex ?_ ?_ ?_ ?_ ?_); exact rfl; kernel_rfl; exact rfl) | ((with_reducible apply kI_eg); exact rfl; kernel_rfl; exact rfl) | ((with_reducible refine kI_nl ?_ ?_))) | ((with_reducible show eOk _ _ _ _ _ _); first | (exact eok_nil) | (refine ke_rd ?_ ?_ ?_; exact rfl) | (apply ke_rg; exact rfl; exact rfl) | (refine ke_cv ?_ ?_ ?_ ?_; exact rfl; kernel_rfl) | (apply ke_fl; exact rfl) | (apply ke_al; exact rfl; exact rfl)) | ((with_reducible refine freshIs_new ?_); kernel_rfl) | (simp only [B, xB, F, reduceLT, reduceLeDiff, reduceEqDiff, reduceAdd, reduceMul, reduceSub, ↓reduceIte, eq_self, t0, t12, t13, t20, g7o]))
 refine hK _ h7 v7 (fun j hj hn => by repeat (rw [T.get_set, if_neg (by omega)])) (by exact sT) ?_ (by omega) (fun c hc hn => by rw [old7 c (by omega) hn, o3.1.2 c hc (by simp)]) (fun c e => by rw [bl7] at e; cases e; omega) (by rw [gg7, o3.2])
 rw [← List.append_assoc, List.length_append, List.flatMap_append, List.flatMap_singleton]
 exact g7
set_option maxHeartbeats 8000000 in
theorem op1C (hk : H) (b b15 b16 base : Nat) (L R : List Rec) (rev : Nat) (v wa : AV) (op : Op) (cb : cellAt hk b 0 = some v) (hlen : ∀ (h' : H) (ts : List TypeId) (xs : List AV), builtinA P .len (45 :: ts) (v :: xs) h' = .val (.int .i64 (.ofNat L.length)) h') (vo : v.one = true) (lb : b < hk.nx) (nb16 : b ≠ b16) (nab : blkOf wa ≠ some b)
  (Y : CellsAt hk b15 0 op.cs) (Z : CellsAt hk b16 0 [.nilslice, .bool false, .int .i64 (.ofNat 0), .int .i64 (.ofNat 0), .nilslice]) (wz : wrAt hk b16 = true)
  (ga : Grows 8 base hk wa (L ++ R).length ((L ++ R).flatMap Rec.cs)) (l15 : b15 < hk.nx) (l16 : b16 < hk.nx) (n16 : b15 ≠ b16) (na : ∀ c, blkOf wa = some c → c ≠ b16) (hbase : base ≤ hk.nx) (hkd : op.kind = Int.ofNat 1) (hz : (L ++ R).length ≤ 800000)
  (tm : T AV) (t0 : tm.get 0 = some (.ptr b 0)) (t12 : tm.get 12 = some (.int .u64 (.ofNat (rev + 1)))) (t13 : tm.get 13 = some wa) (t15 : tm.get 15 = some (.ptr b15 0)) (t16 : tm.get 16 = some (.ptr b16 0)) (K : KQ)
  (hK : ∀ tm2 h2 wa' k p, (∀ j, j ≤ 16 → j ≠ 13 → tm2.get j = tm.get j) → tm2.get 13 = some wa' → OpR hk h2 b16 base L (opS rev L R op).2 (opS rev L R op).1 wa wa' k p → K .norm [] tm2 h2) :
  codeW P 22 276 none (codeI (bodyC Try.f22) [0, 1, 1, 0, 0, 1, 0, 0, 1, 0, 1, 1, 1, 1, 1, 1, 1, 1, 1, 1, 1, 1, 1, 1, 1]) [] tm hk K := by
 obtain ⟨x, hx⟩ : ∃ x, x = getR op.key (atV (rev + 1) (L ++ R)) := ⟨_, rfl⟩
 have eo : opS rev L R op = (putR op x, R ++ [mkR rev R (putKV rev op x) false]):= by unfold opS; rw [if_neg (by rw [hkd]; decide), if_pos (by rw [hkd]; rfl), hx]
 rw [eo] at hK
 obtain ⟨y0, y1, y2, y3, y4, y5, y6, y7, y8⟩ := CellsAt.u9 (show CellsAt hk b15 0 [.int .i64 op.kind, .str op.key, .str op.fin, .str op.val, .int .u64 (.ofNat op.rev), .int .i64 op.limit, .bool op.count, .bool op.keys, .bool op.prev] from Y)
 rw [hkd] at y0
 have wo := ga.one
 have wr1 : wrapF .i64 (Int.ofNat 0) = Int.ofNat 0 := rfl
 have hwl : ∀ c, blkOf wa = some c → c < hk.nx := fun c e => (ga.base e).2
 refine rN ?_ (V t0<|V t12<|V t13<|V t15<|V t16<|V y0<|V y1<|V y2<|V y3<|V y4<|V y5<|V y6<|V y7<|V y8<|wo)
 refine ((findC hk wa (L ++ R) op.key (rev + 1) ga.slice (by omega)).call P).mono P ?_
 rintro _ h1 ⟨rfl, o1⟩
 rw [find_atV]
 simp only
 have ekv : getKV op.key (atV (rev + 1) (L ++ R)) = (x.map (·.kv)).getD kv0:= by unfold getKV; rw [hx]
 have eis : (getR op.key (atV (rev + 1) (L ++ R))).isSome = x.isSome:= by rw [hx]
 rw [ekv, eis]
 obtain ⟨kv, hkv⟩ : ∃ kv, kv = (x.map (·.kv)).getD kv0 := ⟨_, rfl⟩
 rw [← hkv]
 obtain ⟨h2, h2e, o2, x2, a0, a1, a2, a3, a4, -⟩ := kvBox h1 kv
 obtain ⟨h3, h3e, o3, x3, k0, k1, k2, k3, k4, wk⟩ := kvBox h2 ⟨op.key, op.val, rev + 1, rev + 1, 1⟩
 simp only at h3e k0 k1 k2 k3 k4
 have x1 := o1.1.1
 have o12 := o1.t o2
 have o13 := o12.t o3
 have Y2 := gC Y o12 l15 (by simp)
 obtain ⟨p0, p1, p2, p3, p4, p5, p6, p7, p8⟩ := CellsAt.u9 (show CellsAt h2 b15 0 [.int .i64 op.kind, .str op.key, .str op.fin, .str op.val, .int .u64 (.ofNat op.rev), .int .i64 op.limit, .bool op.count, .bool op.keys, .bool op.prev] from Y2)
 have A3 := gC (CellsAt.m5 a0 a1 a2 a3 a4) o3 (by omega) (by simp)
 obtain ⟨b0, b1, b2, b3, b4⟩ := A3.u5
 have K3 := CellsAt.m5 k0 k1 k2 k3 k4
 have Z3 := gC Z o13 l16 (by simp)
 have wz3 := kw wz o13 l16 (by simp)
 have Y3 := gC Y2 o3 (by omega) (by simp)
 have ga3 : Grows 8 base h3 wa _ _ := ga.of_get o13.1.1 (fun c e => o13.1.2 c (hwl c e) (by simp))
 have cb3 := kc cb o13 lb (by simp)
 -- behind the put
 have fin : ∀ (h4 : H) (p : AV), hk.nx ≤ h4.nx → h2.nx < h4.nx → (∀ c, c < hk.nx → c ≠ b16 → h4.t.get c = hk.t.get c) → h4.g = hk.g → CellsAt h4 h2.nx 0 (putKV rev op x).cs → CellsAt h4 b16 0 ((putR op x).cs .nilslice p) → SliceAt h4 p (putR op x).prev.length ((putR op x).prev.flatMap KV.cs) → (∀ c, blkOf p = some c → hk.nx ≤ c ∧ c < h4.nx) → ∀ tm4 : T AV, (∀ j, j ≤ 16 → tm4.get j = tm.get j) → tm4.get 20 = some (.ptr h2.nx 0) → ∀ K' : KQ, (∀ tm2 h2, K .norm [] tm2 h2 → K' .norm [] tm2 h2) →
   codeW P 22 276 none (codeI (bodyC Try.f22) [1, 1, 1, 1, 0, 1, 1, 1, 0, 1, 0, 1, 1, 0, 0, 1, 0, 0, 1, 0, 1, 1, 1, 1, 1, 1, 1, 1, 1, 1, 1, 1, 1, 1, 1]) [] tm4 h4 K' := by
  intro h4 p q1 q2 q3 q4 q5 q6 q7 q8 tm4 htm g20 K' hK'
  refine put1C h4 b b16 h2.nx base L R rev v wa (putKV rev op x) q5 (by rw [cellAt_of_get (q3 b lb nb16)]; exact cb) hlen vo (ga.of_get q1 (fun c e => q3 c (hwl c e) (na c e))) (by omega) q2 (by omega) hz tm4 ((htm 0 (by omega)).trans t0) ((htm 12 (by omega)).trans t12) ((htm 13 (by omega)).trans t13) g20 K' ?_
  intro tm2 h5 wa' ht2 g13 ga5 x5 old5 nw5 gg5
  refine hK' _ _ (hK tm2 h5 wa' .nilslice p (fun j hj hn => (ht2 j hj hn).trans (htm j hj)) g13 ⟨q6.of_get (old5 b16 (by omega) (fun e => na _ e rfl)), ga5, .none, q7.move x5 (fun c e => old5 c (q8 c e).2 (fun e2 => by have := hwl c e2; have := q8 c e; omega)), fun c e => (by cases e), fun c e => ⟨(q8 c e).1, fun e2 => by have := nw5 c e2; have := q8 c e; omega⟩, by omega, fun c hc hn1 hn2 => by rw [old5 c (by omega) hn2, q3 c hc hn1], fun c e => .inr (by have := nw5 c e; omega), by rw [gg5, q4]⟩)
 unfold KV.cs
 cases x with
 | none =>
  repeat' (first | (with_reducible refine stopC [1, 1, 1, 1, 0, 1, 1, 1, 0, 1, 0, 1, 1, 0, 0, 1, 0, 0, 1, 0, 1, 1, 1, 1, 1, 1, 1, 1, 1, 1, 1, 1, 1, 1, 1] ?_) | ((with_reducible refine st1 ?_); (conv => whnf); (with_reducible refine ⟨?_⟩)) | ((with_reducible refine retW_intro rfl ?_); (conv => arg 2; whnf)) | ((with_reducible first | refine iB ?_ ?_ | refine gWt ?_ ?_ | refine gWf ?_ ?_) <;> intro hb <;> (try simp only [hb])) | (simp only [B, xB, F, reduceLT, reduceLeDiff, reduceEqDiff, reduceAdd, reduceMul, reduceSub, ↓reduceIte, eq_self, h2e, p0, p1, p2, p3, p4, p5, p6, p7, p8, t12, t15, t16, h3e, Option.isSome_none]))
  refine ⟨?_⟩
  refine fin h3 .nilslice (by omega) (by omega) (fun c hc _ => o13.1.2 c hc (by simp)) o13.2 K3 Z3 (by unfold putR; cases op.prev <;> exact .none) (fun c e => by cases e) _ (fun j hj => by repeat (rw [T.get_set, if_neg (by omega)])) (by exact sT) _ ?_
  intro tm2 h2 hq
  refine rN0 ?_
  exact hq
 | some r =>
  have hkr : kv = r.kv := hkv
  rw [hkr] at h2e b2 b4 b0 b1 b3 ⊢
  have vw := verV_w r.kv.ver
  obtain ⟨h5, h5e⟩ : ∃ h5, h5 = (h3.sts h2.nx 2 [.int .u64 (.ofNat r.kv.cre)]).sts h2.nx 4 [.int .u64 (.ofNat (verV r.kv.ver))] := ⟨_, rfl⟩
  have K5 := (K3.put wk (j := 2) (by simp) (.int .u64 (.ofNat r.kv.cre))).put (by rw [wrAt_sts]; exact wk) (j := 4) (by simp) (.int .u64 (.ofNat (verV r.kv.ver)))
  rw [Nat.zero_add, Nat.zero_add, ← h5e] at K5
  have k5 : ∀ c, c ≠ h2.nx → h5.t.get c = h3.t.get c := fun c hc => by rw [h5e, get_sts _ _ _ _ hc, get_sts _ _ _ _ hc]
  have x5 : h5.nx = h3.nx:= by rw [h5e, nx_sts, nx_sts]
  have o35 : Og h3 h5 [h2.nx]:= by rw [h5e]; exact ((Og.refl _ _).sts (.inl (by simp))).sts (.inl (by simp))
  have g5 : h5.g = h3.g := o35.2
  have b2' : cellAt h5 h1.nx 2 = _ := kc b2 o35 (by omega) (by simp; omega)
  obtain ⟨s0, s1, s2, s3, s4⟩ := (gC A3 o35 (by omega) (by simp; omega)).u5
  rw [hkr] at s0 s1 s2 s3 s4
  have Y5 := gC Y3 o35 (by omega) (by simp; omega)
  obtain ⟨-, -, -, -, -, -, -, -, p8'⟩ := CellsAt.u9 (show CellsAt h5 b15 0 [.int .i64 op.kind, .str op.key, .str op.fin, .str op.val, .int .u64 (.ofNat op.rev), .int .i64 op.limit, .bool op.count, .bool op.keys, .bool op.prev] from Y5)
  have Z5 := gC Z3 o35 (by omega) (by simp; omega)
  have wz5 := kw wz3 o35 (by omega) (by simp; omega)
  cases qp : op.prev with
  | false =>
   rw [qp] at p8'
   repeat' (first | (with_reducible refine stopC [1, 1, 1, 1, 0, 1, 1, 1, 0, 1, 0, 1, 1, 0, 0, 1, 0, 0, 1, 0, 1, 1, 1, 1, 1, 1, 1, 1, 1, 1, 1, 1, 1, 1, 1] ?_) | ((with_reducible refine st1 ?_); (conv => whnf); (with_reducible refine ⟨?_⟩)) | ((with_reducible refine retW_intro rfl ?_); (conv => arg 2; whnf)) | ((with_reducible first | refine iB ?_ ?_ | refine gWt ?_ ?_ | refine gWf ?_ ?_) <;> intro hb <;> (try simp only [hb])) | (simp only [B, xB, F, reduceLT, reduceLeDiff, reduceEqDiff, reduceAdd, reduceMul, reduceSub, ↓reduceIte, eq_self, h2e, p0, p1, p2, p3, p4, p5, p6, p7, p8, t12, h3e, Option.isSome_some, t15, b0, b1, b2, b3, b4, k2, k4, wk, vw, ← h5e, p8']))
   refine ⟨?_⟩
   refine fin h5 .nilslice (by omega) (by omega) (fun c hc _ => by rw [k5 c (by omega), o13.1.2 c hc (by simp)]) (g5.trans o13.2) K5 Z5 (by unfold putR; rw [qp]; exact .none) (fun c e => by cases e) _ (fun j hj => by repeat (rw [T.get_set, if_neg (by omega)])) (by exact sT) _ ?_
   intro tm2 h2 hq
   refine rN0 ?_
   exact hq
  | true =>
   rw [qp] at p8'
   obtain ⟨h6, h6e⟩ : ∃ h6, h6 = h5.newCells 55 [.str r.kv.key, .str r.kv.val, .int .u64 (.ofNat r.kv.cre), .int .u64 (.ofNat r.kv.mod), .int .u64 (.ofNat r.kv.ver)] := ⟨_, rfl⟩
   have o6 : Og h5 h6 []:= by rw [h6e]; exact (Og.refl _ _).new _ _
   have x6 : h6.nx = h5.nx + 1:= by rw [h6e]; rfl
   have S6 : SliceAt h6 (.slice h5.nx 0 1 (.exact 1)) 1 r.kv.cs := .cell _ _ _ _ _ (by omega) (by rw [h6e]; exact CellsAt.new h5 55 r.kv.cs)
   have Z6 := gC Z5 o6 (by omega) (by simp)
   have wz6 := kw wz5 o6 (by omega) (by simp)
   obtain ⟨-, -, -, -, e4⟩ := Z6.u5
   obtain ⟨h7, h7e⟩ : ∃ h7, h7 = h6.sts b16 4 [.slice h5.nx 0 1 (.exact 1)] := ⟨_, rfl⟩
   have Z7 := Z6.put wz6 (j := 4) (by simp) (.slice h5.nx 0 1 (.exact 1))
   rw [Nat.zero_add, ← h7e] at Z7
   have k7 : ∀ c, c ≠ b16 → h7.t.get c = h6.t.get c := fun c hc => by rw [h7e, get_sts _ _ _ _ hc]
   have x7 : h7.nx = h6.nx:= by rw [h7e, nx_sts]
   repeat' (first | (with_reducible refine stopC [1, 1, 1, 1, 0, 1, 1, 1, 0, 1, 0, 1, 1, 0, 0, 1, 0, 0, 1, 0, 1, 1, 1, 1, 1, 1, 1, 1, 1, 1, 1, 1, 1, 1, 1] ?_) | ((with_reducible refine st1 ?_); (conv => whnf); (with_reducible refine ⟨?_⟩)) | ((with_reducible refine retW_intro rfl ?_); (conv => arg 2; whnf)) | ((with_reducible first | refine iB ?_ ?_ | refine gWt ?_ ?_ | refine gWf ?_ ?_) <;> intro hb <;> (try simp only [hb])) | (simp only [B, xB, F, reduceLT, reduceLeDiff, reduceEqDiff, reduceAdd, reduceMul, reduceSub, ↓reduceIte, eq_self, h2e, p0, p1, p2, p3, p4, p5, p6, p7, p8, t12, h3e, Option.isSome_some, t15, t16, b0, b1, b2, b3, b4, k2, k4, wk, vw, ← h5e, p8', s0, s1, s2, s3, s4, ← h6e, e4, wz6, ← h7e]))
   refine ⟨?_⟩
   refine fin h7 (.slice h5.nx 0 1 (.exact 1)) (by omega) (by omega) (fun c hc hn => by rw [k7 c hn, o6.1.2 c (by omega) (by simp), k5 c (by omega), o13.1.2 c hc (by simp)]) (by rw [h7e, g_sts, o6.2, g5, o13.2]) ((gC K5 o6 (by omega) (by simp)).of_get (k7 h2.nx (by omega))) Z7 ?_ (fun c e => by cases e; omega) _ (fun j hj => by repeat (rw [T.get_set, if_neg (by omega)])) (by exact sT) _ ?_
   ·have e : (putR op (some r)).prev = [r.kv]:= by unfold putR; rw [qp]; rfl
    rw [e, List.flatMap_singleton]
    exact S6.move (by omega) (fun c e => by cases e; exact k7 _ (by omega))
   ·intro tm2 h2 hq
    refine rN0 ?_
    exact hq
end
end Go.Proofs.Ytnedigoajoflaaa.M


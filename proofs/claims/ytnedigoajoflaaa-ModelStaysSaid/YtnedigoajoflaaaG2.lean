/-
  model: a transaction: walked.
-/
import Derived.Test.YtnedigoajoflaaaAxI
import Derived.Test.YtnedigoajoflaaaG1
import Derived.Test.YtnedigoajoflaaaG0
set_option linter.unusedSimpArgs false
set_option linter.unusedVariables false
set_option linter.unusedSectionVars false
open Nat (reduceLT reduceLeDiff reduceEqDiff reduceAdd reduceMul reduceSub)
namespace Go.Proofs.Ytnedigoajoflaaa.M
open Go Go.AX
noncomputable section
set_option maxRecDepth 100000
def twB (l : List Op) : Bool := l.any fun o => (putsV l).any (badB o)
theorem twB_iff (l : List Op) : twB l = true ↔ TwP l := by
 unfold twB TwP
 rw [List.any_eq_true]
 constructor
 ·rintro ⟨o, ho, h⟩
  obtain ⟨p, hp, hb⟩ := List.any_eq_true.1 h
  exact ⟨o, ho, p, hp, hb⟩
 ·rintro ⟨o, ho, p, hp, hb⟩
  exact ⟨o, ho, List.any_eq_true.2 ⟨p, hp, hb⟩⟩
structure Tx where
 err : Nat
 tk : Bool
 rs : List Res
 R : List Rec
def brV (r : Rq) (tk : Bool) : List Op := if tk then r.th else r.el
def tkB (rev : Nat) (L0 : List Rec) (r : Rq) : Bool := !r.cmps.any (failsB (atV rev L0))
def txnS (rev comp : Nat) (L0 : List Rec) (r : Rq) : Tx :=
 if checkR r = 0 then
  if twB (brV r (tkB rev L0 r)) then ⟨12, false, [], []⟩
  else if firstW rev comp (brV r (tkB rev L0 r)) = 0 then ⟨0, tkB rev L0 r, (opsS rev L0 (brV r (tkB rev L0 r))).1, (opsS rev L0 (brV r (tkB rev L0 r))).2⟩
  else ⟨firstW rev comp (brV r (tkB rev L0 r)), false, [], []⟩
 else ⟨checkR r, false, [], []⟩
theorem mayB_kind {o : Op} (h : mayB o = true) : ∃ kd : Nat, o.kind = Int.ofNat kd ∧ kd < 3 := by
 unfold mayB kindB at h
 by_cases q0 : o.kind == .ofNat 0
 ·exact ⟨0, by simpa using q0, by omega⟩
 ·by_cases q1 : o.kind == .ofNat 1
  ·exact ⟨1, by simpa using q1, by omega⟩
  ·by_cases q2 : o.kind == .ofNat 2
   ·exact ⟨2, by simpa using q2, by omega⟩
   ·rw [if_neg q0, if_neg q1, if_neg q2] at h
    simp at h
theorem checkR_kind {r : Rq} (h : checkR r = 0) (tk : Bool) : ∀ op, op ∈ brV r tk → ∃ kd : Nat, op.kind = Int.ofNat kd ∧ kd < 3 := by
 unfold checkR at h
 split at h
 ·rename_i q
  intro op ho
  unfold brV at ho
  split at ho
  ·exact mayB_kind (List.all_eq_true.1 q.2.2.2.2.1 op ho)
  ·exact mayB_kind (List.all_eq_true.1 q.2.2.2.2.2 op ho)
 ·cases h
theorem atV_all {m n : Nat} : ∀ (L : List Rec) (W : View), (∀ x, x ∈ L → x.main ≤ m ∧ x.main ≤ n) → L.foldl (fun W r => if r.main ≤ m then layV W r else W) W = L.foldl (fun W r => if r.main ≤ n then layV W r else W) W
 | [], _, _ => rfl
 | r :: L, W, h => by
  have := h r (by simp)
  rw [List.foldl_cons, List.foldl_cons, if_pos this.1, if_pos this.2]
  exact atV_all L _ fun x hx => h x (by simp [hx])
theorem atV_up {rev : Nat} {L : List Rec} (h : ∀ x, x ∈ L → x.main ≤ rev) : atV rev L = atV (rev + 1) L := atV_all L [] fun x hx => ⟨h x hx, by have := h x hx; omega⟩
theorem rqAll (h : H) (r : Rq) (vc vt ve : AV) (oc : vc.one = true) (ot : vt.one = true) (oe : ve.one = true) : boxR h 31 (r.cs vc vt ve) = .val (.ptr h.nx 0) (h.newCells 31 (r.cs vc vt ve)) := boxR_ok (by unfold Rq.cs; simp only [allOne_cons, allOne_nil, oc, ot, oe, one_int, one_bool, Bool.and_self, Bool.true_and])
theorem ansNew (h : H) : ∃ h1, h.newCells 38 [.int .i64 (.ofNat 0), .int .u64 (.ofNat 0), .int .u64 (.ofNat 0), .bool false, .nilslice, .int .u32 (.ofNat 0), .int .u64 (.ofNat 0), .int .u64 (.ofNat 0), .int .i64 (.ofNat 0)] = h1 ∧ Og h h1 [] ∧ h1.nx = h.nx + 1 ∧ wrAt h1 h.nx = true ∧ CellsAt h1 h.nx 0 (ansC 0 0 0 false .nilslice) :=
 ⟨_, rfl, (Og.refl _ _).new _ _, rfl, wr_new _ _ _, CellsAt.new _ _ _⟩
theorem TxPost.bad {h0 h' : H} {bm rev comp b4 err : Nat} {L0 : List Rec} {v0 : AV} (md : MdAt h0 bm L0 rev comp v0) (gv : Grows 8 0 h0 v0 L0.length (L0.flatMap Rec.cs)) (hne : ∀ c, blkOf v0 = some c → c ≠ bm) (o : Og h0 h' []) :
  TxPost h0 h' bm L0 rev comp err false [] [] (.agg (ansC err 0 0 false .nilslice)) [] .nilslice v0 v0 := by
 have k : ∀ c, c < h0.nx → h'.t.get c = h0.t.get c := fun c hc => o.1.2 c hc (by simp)
 exact ⟨rfl, rfl, .none, fun x hx => (by cases hx), by rw [List.append_nil, if_pos rfl]; exact md.keep o.1.1 (k bm md.lt) (fun c e => k c (gv.base e).2), by rw [List.append_nil]; exact gv.of_get o.1.1 (fun c e => k c (gv.base e).2), ⟨⟨o.1.1, fun c hc _ => k c hc⟩, o.2⟩, hne, fun c e => (by cases e), fun x hx => (by cases hx), fun c e => .inl e⟩
set_option maxHeartbeats 8000000 in
theorem txnC (h0 : H) (bm : Nat) (L0 : List Rec) (rev comp : Nat) (v0 : AV) (md : MdAt h0 bm L0 rev comp v0) (gv : Grows 8 0 h0 v0 L0.length (L0.flatMap Rec.cs)) (hne : ∀ c, blkOf v0 = some c → c ≠ bm) (r : Rq) (vc vt ve : AV) (ra : RqAt h0 r vc vt ve)
    (hm : ∀ x, x ∈ L0 → x.main ≤ rev) (hr : rev ≤ 1000000) (hs : Short L0) (hzL : L0.length ≤ 200000)
    (hB : ∀ tk i, i ≤ (brV r tk).length → Short (opsS rev L0 ((brV r tk).take i)).2 ∧ (opsS rev L0 ((brV r tk).take i)).2.length ≤ 200000) :
    PushC P (.enter 20 [.ptr bm 0, .agg (r.cs vc vt ve)] h0) fun v h' => ∃ xs rw_ v1, TxPost h0 h' bm L0 rev comp (txnS rev comp L0 r).err (txnS rev comp L0 r).tk (txnS rev comp L0 r).rs (txnS rev comp L0 r).R v xs rw_ v1 v0 := by
  have oc := sl_one ra.sc
  have ot := sl_one ra.st
  have oe := sl_one ra.se
  have lbm := md.lt
  obtain ⟨h1, h1e⟩ : ∃ h1, h1 = h0.newCells 31 (r.cs vc vt ve) := ⟨_, rfl⟩
  have bx := rqAll h0 r vc vt ve oc ot oe
  rw [← h1e] at bx
  have o1 : Og h0 h1 []:= by rw [h1e]; exact (Og.refl _ _).new _ _
  have x1 : h1.nx = h0.nx + 1:= by rw [h1e]; rfl
  have Y1 : CellsAt h1 h0.nx 0 (r.cs vc vt ve):= by rw [h1e]; exact CellsAt.new _ _ _
  obtain ⟨h2, h2e, o2, x2, w42, A2⟩ := ansNew h1
  have o12 := o1.t o2
  have Y2 := gC Y1 o2 (by omega) (by simp)
  obtain ⟨y0, y1, y2, y3, y4, y5, y6, y7⟩ := Y2.u8
  refine pushC_of_codeW (fn := Try.f20) (c := bodyC Try.f20) Try.func20 rfl ?_
  show codeW P 20 121 none _ _ _ _ _
  refine codeW_root ?_
  refine rN ?_ (V bx<|V h2e<|V y0<|V y1<|V y2<|V y3<|V y4<|V y5<|V y6<|y7)
  refine ((sCheckC h2 r vc vt ve (ra.keep o12)).call P).mono P ?_
  rintro _ h3 ⟨rfl, o3⟩
  have x3 := o3.1.1
  have Y3 := gC Y2 o3 (by omega) (by simp)
  have A3 := gC A2 o3 (by omega) (by simp)
  have w43 := kw w42 o3 (by omega) (by simp)
  obtain ⟨a0, a1, a2, a3, a4, a5, a6, a7, a8⟩ := A3.u9
  obtain ⟨e, he⟩ : ∃ e, e = checkR r := ⟨_, rfl⟩
  obtain ⟨h4, h4e⟩ : ∃ h4, h4 = h3.sts h1.nx 0 [.int .i64 (.ofNat e)] := ⟨_, rfl⟩
  have A4 : CellsAt h4 h1.nx 0 (ansC e 0 0 false .nilslice) := by
    have := A3.put w43 (j := 0) (by simp [ansC]) (.int .i64 (.ofNat e))
    rw [Nat.zero_add, ← h4e] at this
    exact this
  have w44 : wrAt h4 h1.nx = true:= by rw [h4e, wrAt_sts]; exact w43
  have o04 : Og h0 h4 []:= by rw [h4e]; exact (o12.t o3).sts (.inr (by omega))
  have x4 : h4.nx = h3.nx:= by rw [h4e, nx_sts]
  have k4 : ∀ c, c ≠ h1.nx → h4.t.get c = h3.t.get c := fun c hc => by rw [h4e, get_sts _ _ _ _ hc]
  obtain ⟨b0, b1, b2, b3, b4, b5, b6, b7, b8⟩ := A4.u9
  have Y4 : CellsAt h4 h0.nx 0 (r.cs vc vt ve) := Y3.of_get (k4 _ (by omega))
  rw [← he]
  by_cases qe : e = 0
  · have de : decide (e = 0) = true := decide_eq_true qe
    subst qe
    have hck : checkR r = 0 := he.symm
    have m4 := md.keep o04.1.1 (o04.1.2 bm lbm (by simp)) (fun c e => o04.1.2 c (gv.base e).2 (by simp))
    have m41 := m4.c1
    have hv0 : ∀ c, blkOf v0 = some c → c < h0.nx := fun c e => (gv.base e).2
    refine rN ?_ (V a0<|V w43<|V h4e.symm<|V b0<|V de<|V @Bool.not_true<|m41)
    refine ((atC h4 bm rev L0 v0 m4.lt m4.c0 m4.sl (by omega) (fun c e => by have := hv0 c e; omega)).call P).mono P ?_
    rintro _ h5 ⟨ro, rfl, hro, o5, m5⟩
    have x5 := o5.1.1
    have hro5 := m5.lt
    obtain ⟨h6, h6e⟩ : ∃ h6, h6 = h5.newCells 100 [.ptr bm 0, .map ro, .nilslice] := ⟨_, rfl⟩
    have o6 : Og h5 h6 []:= by rw [h6e]; exact (Og.refl _ _).new _ _
    have x6 : h6.nx = h5.nx + 1:= by rw [h6e]; rfl
    have D6 : CellsAt h6 h5.nx 0 [.ptr bm 0, .map ro, .nilslice]:= by rw [h6e]; exact CellsAt.new _ _ _
    have wd6 : wrAt h6 h5.nx = true:= by rw [h6e]; exact wr_new _ _ _
    obtain ⟨h7, h7e⟩ : ∃ h7, h7 = (h6.newCells 98 [.nilptr]).sts h6.nx 0 [.ptr h5.nx 0] := ⟨_, rfl⟩
    have o7 : Og h6 h7 []:= by rw [h7e]; exact ((Og.refl _ _).new _ _).sts (.inr (Nat.le_refl _))
    have x7 : h7.nx = h6.nx + 1:= by rw [h7e, nx_sts, nx_new]
    have F7 : CellsAt h7 h6.nx 0 [.ptr h5.nx 0]:= by rw [h7e]; exact CellsAt.box _ _ _ _
    have k5 := F7.u1
    have o67 := o6.t o7
    have o57 := o5.t o67
    have o07 := o04.t o57
    have D7 := gC D6 o7 (by omega) (by simp)
    have wd7 := kw wd6 o7 (by omega) (by simp)
    obtain ⟨d0, d1, d2⟩ := D7.u3
    have m7 : MapK encS h7 ro (mR (atV rev L0)) := m5.keep o67.1 (by simp)
    have A7 := gC A4 o57 (by omega) (by simp)
    have w47 := kw w44 o57 (by omega) (by simp)
    have Y7 := gC Y4 o57 (by omega) (by simp)
    obtain ⟨z0, z1, z2, z3, z4, z5, z6, z7⟩ := Y7.u8
    have ra7 := ra.keep o07
    refine rN ?_ (V m41<|V h6e.symm<|V h7e.symm<|V z0<|V z1<|V z2<|V z3<|V z4<|V z5<|V z6<|V z7<|V oc<|V ot<|oe)
    refine ((cixA h7 vc (.func 36 [] [.ptr h6.nx 0]) r.cmps (failsB (atV rev L0)) ra7.sc ra7.zc 36 [] [.ptr h6.nx 0] rfl (fun args h => callV_func 36 (by kernel_rfl) [] _ args) (fun x h _ o => ?_)).call P).mono P ?_
    · exact failsC h h6.nx h5.nx ro (atV rev L0) x (kc k5 o (by omega) (by simp)) (kc d1 o (by omega) (by simp)) (m7.keep o.1 (by simp)) (by have := o.1.1; omega) (by have := o.1.1; omega)
    rintro _ h8 ⟨rfl, o8⟩
    have x8 := o8.1.1
    have o08 := o07.t o8
    have o58 := o57.t o8
    obtain ⟨tk, htk⟩ : ∃ tk, tk = tkB rev L0 r := ⟨_, rfl⟩
    have htk2 : (!r.cmps.any (failsB (atV rev L0))) = tk := htk.symm
    have Y8 := gC Y7 o8 (by omega) (by simp)
    obtain ⟨z0', z1', z2', z3', z4', z5', z6', z7'⟩ := Y8.u8
    have ra8 := ra.keep o08
    have A8 := gC A7 o8 (by omega) (by simp)
    have w48 := kw w47 o8 (by omega) (by simp)
    obtain ⟨p0, p1, p2, p3, p4, p5, p6, p7, p8⟩ := A8.u9
    have k58 := kc k5 o8 (by omega) (by simp)
    obtain ⟨va, hva, sva, zva, ova⟩ : ∃ va, va = (if tk then vt else ve) ∧ SliceAt h8 va (brV r tk).length ((brV r tk).flatMap Op.cs) ∧ (brV r tk).length ≤ 1000000 ∧ va.one = true := by
      refine ⟨_, rfl, ?_⟩
      unfold brV
      cases tk
      · exact ⟨ra8.se, ra8.ze, oe⟩
      · exact ⟨ra8.st, ra8.zt, ot⟩
    have hvab : ∀ c, blkOf va = some c → c < h0.nx := fun c e => by
      rw [hva] at e
      cases tk
      · exact sl_lt ra.se c e
      · exact sl_lt ra.st c e
    -- behind the choice of the branch
    have rest : ∀ tm : T AV, tm.get 0 = some (.ptr bm 0) → tm.get 4 = some (.ptr h1.nx 0) → tm.get 5 = some (.ptr h6.nx 0) → tm.get 7 = some (.bool tk) → tm.get 8 = some va →
        codeW P 20 121 none (codeI (bodyC Try.f20) [1, 1, 1, 1, 1, 1, 1]) [] tm h8 (retK P Try.f20 fun v h' => ∃ xs rw_ v1, TxPost h0 h' bm L0 rev comp (txnS rev comp L0 r).err (txnS rev comp L0 r).tk (txnS rev comp L0 r).rs (txnS rev comp L0 r).R v xs rw_ v1 v0) := by
      intro tm t0 t4 t5 t7 t8
      refine rN ?_ (V t0<|V t4<|V t5<|V t7<|t8)
      refine ((twiceC h8 va (brV r tk) sva zva).call P).mono P ?_
      rintro _ h9 ⟨b, ⟨rfl, o9⟩, hb⟩
      have x9 := o9.1.1
      have ebt : b = twB (brV r tk):= by rw [Bool.eq_iff_iff, hb, twB_iff]
      have A9 := gC A8 o9 (by omega) (by simp)
      have w49 := kw w48 o9 (by omega) (by simp)
      obtain ⟨s0, s1, s2, s3, s4, s5, s6, s7, s8⟩ := A9.u9
      have o09 := o08.t o9
      cases b with
      | true =>
        have et : txnS rev comp L0 r = ⟨12, false, [], []⟩:= by unfold txnS; rw [if_pos hck, ← htk, ← ebt]; rfl
        rw [et]
        obtain ⟨hA, hAe⟩ : ∃ hA, hA = h9.sts h1.nx 0 [.int .i64 (.ofNat 12)] := ⟨_, rfl⟩
        have AA : CellsAt hA h1.nx 0 (ansC 12 0 0 false .nilslice) := by
          have := A9.put w49 (j := 0) (by simp [ansC]) (.int .i64 (.ofNat 12))
          rw [Nat.zero_add, ← hAe] at this
          exact this
        have wA : wrAt hA h1.nx = true:= by rw [hAe, wrAt_sts]; exact w49
        obtain ⟨u0, u1, u2, u3, u4, u5, u6, u7, u8⟩ := AA.u9
        obtain ⟨hB', hBe⟩ : ∃ hB', hB' = hA.sts h1.nx 0 (ansC 12 0 0 false .nilslice) := ⟨_, rfl⟩
        have AB : CellsAt hB' h1.nx 0 (ansC 12 0 0 false .nilslice):= by rw [hBe]; exact CellsAt.sts wA _
        obtain ⟨c0, c1, c2, c3, c4, c5, c6, c7, c8⟩ := AB.u9
        have o0B : Og h0 hB' []:= by rw [hBe, hAe]; exact (o09.sts (.inr (by omega))).sts (.inr (by omega))
        unfold ansC at hBe
        refine rN ?_ (V t4<|V s0<|V w49<|V hAe.symm<|V u0<|V u1<|V u2<|V u3<|V u4<|V u5<|V u6<|V u7<|V u8<|V wA<|V hBe.symm<|V c0<|V c1<|V c2<|V c3<|V c4<|V c5<|V c6<|V c7<|c8)
        exact ⟨[], .nilslice, v0, TxPost.bad (b4 := 0) md gv hne o0B⟩
      | false =>
        have m9 := md.keep o09.1.1 (o09.1.2 bm lbm (by simp)) (fun c e => o09.1.2 c (gv.base e).2 (by simp))
        repeat' (first | (with_reducible refine stopC [0, 1, 1, 1, 1, 1, 1, 1, 1] ?_) | ((with_reducible refine st1 ?_); (conv => whnf); (with_reducible refine ⟨?_⟩)) | ((with_reducible refine retW_intro rfl ?_); (conv => arg 2; whnf)) | ((with_reducible first | refine iB ?_ ?_ | refine gWt ?_ ?_ | refine gWf ?_ ?_) <;> intro hb <;> (try simp only [hb])) | (simp only [B, xB, F, reduceLT, reduceLeDiff, reduceEqDiff, reduceAdd, reduceMul, reduceSub, ↓reduceIte, eq_self]))
        refine ⟨?_⟩
        refine whenLoop h9 bm h1.nx h6.nx rev comp tk (brV r tk) va ⟨m9.c1, m9.c2, A9, w49, Og.refl _ _⟩ (SliceAt.only o9.1 sva (fun _ _ => by simp)) zva (by omega) (by omega) (fun c e => by have := hvab c e; omega) (by omega) _ (by exact sT) (by exact sT) (by exact sT) (by exact sT) (by exact sT) _ ?_ ?_
        · intro tm2 hA g4 oA AA hf
          clear t0 t4 t5 t7 t8
          have et : txnS rev comp L0 r = ⟨firstW rev comp (brV r tk), false, [], []⟩:= by unfold txnS; rw [if_pos hck, ← htk, ← ebt, if_neg (by simp), if_neg hf]
          rw [et]
          have o0A : Og h0 hA [] := ⟨⟨by have := oA.1.1; have := o09.1.1; omega, fun c hc _ => by rw [oA.1.2 c (by omega) (by simp; omega)]; exact o09.1.2 c hc (by simp)⟩, oA.2.trans o09.2⟩
          obtain ⟨u0, u1, u2, u3, u4, u5, u6, u7, u8⟩ := AA.u9
          refine rN ?_ (V g4<|V u0<|V u1<|V u2<|V u3<|V u4<|V u5<|V u6<|V u7<|u8)
          exact ⟨[], .nilslice, v0, TxPost.bad (b4 := 0) md gv hne o0A⟩
        · intro tm2 hA g0 g4 g5 g7 g8 tw hf
          clear t0 t4 t5 t7 t8
          have oA := tw.oo
          have xA := oA.1.1
          have hn1 : ∀ c, c < h9.nx → c ≠ h1.nx → hA.t.get c = h9.t.get c := fun c hc hn => oA.1.2 c hc (by simp [hn])
          have o0A : Og h0 hA [] := ⟨⟨by have := o09.1.1; omega, fun c hc _ => by rw [hn1 c (by omega) (by omega)]; exact o09.1.2 c hc (by simp)⟩, oA.2.trans o09.2⟩
          have k8A : ∀ c, c < h8.nx → c ≠ h1.nx → hA.t.get c = h8.t.get c := fun c hc hn => by rw [hn1 c (by omega) hn, o9.1.2 c hc (by simp)]
          have k7A : ∀ c, c < h7.nx → c ≠ h1.nx → hA.t.get c = h7.t.get c := fun c hc hn => by rw [k8A c (by omega) hn, o8.1.2 c hc (by simp)]
          have k5A : cellAt hA h6.nx 0 = some (.ptr h5.nx 0):= by rw [cellAt_of_get (k7A _ (by omega) (by omega))]; exact k5
          obtain ⟨l, hl⟩ : ∃ l, l = brV r tk := ⟨_, rfl⟩
          have svA : SliceAt h0 va l.length (l.flatMap Op.cs) := by
            rw [hl, hva]; unfold brV
            cases tk
            · exact ra.se
            · exact ra.st
          have hlenA := (svA.move (h' := hA) o0A.1.1 (fun c e => o0A.1.2 c (hvab c e) (by simp))).len (P := P) u29a
          obtain ⟨hC, hCe⟩ : ∃ hC, hC = (hA.newCells 108 [.nilFunc, .nilFunc, .nilFunc]).sts hA.nx 0 [.func 41 [.ptr h5.nx 0] [], .func 42 [.ptr h5.nx 0] [], .func 43 [.ptr h5.nx 0] []] := ⟨_, rfl⟩
          have oC : Og hA hC []:= by rw [hCe]; exact ((Og.refl _ _).new _ _).sts (.inr (Nat.le_refl _))
          have xC : hC.nx = hA.nx + 1:= by rw [hCe, nx_sts, nx_new]
          have FC : CellsAt hC hA.nx 0 [.func 41 [.ptr h5.nx 0] [], .func 42 [.ptr h5.nx 0] [], .func 43 [.ptr h5.nx 0] []]:= by rw [hCe]; exact CellsAt.box _ _ _ _
          have o0C := o0A.t oC
          have k7C : ∀ c, c < h7.nx → c ≠ h1.nx → hC.t.get c = h7.t.get c := fun c hc hn => by rw [oC.1.2 c (by omega) (by simp), k7A c hc hn]
          have mC := md.keep o0C.1.1 (o0C.1.2 bm lbm (by simp)) (fun c e => o0C.1.2 c (gv.base e).2 (by simp))
          have eqV : atV (rev + 1) (L0 ++ []) = atV rev L0:= by rw [List.append_nil, atV_up hm]
          have hTx : TxH h0 hC h5.nx bm ro hC.nx h1.nx h6.nx hA.nx L0 v0 rev comp [] .nilslice [] .nilslice :=
            ⟨⟨by rw [cellAt_of_get (k7C _ (by omega) (by omega))]; exact d0, by rw [cellAt_of_get (k7C _ (by omega) (by omega))]; exact d1, by rw [cellAt_of_get (k7C _ (by omega) (by omega))]; exact d2, by rw [wrAt_of_get (k7C _ (by omega) (by omega))]; exact wd7, mC, by rw [eqV]; exact m7.get (by omega) (k7C ro (by omega) (by omega)), .none, by omega, by omega, by omega, Nat.le_refl _, fun c e => by have := hv0 c e; omega⟩,
             by rw [cellAt_of_get (k7C _ (by omega) (by omega))]; exact k5, FC, gC tw.a oC (by omega) (by simp), kw tw.w4 oC (by omega) (by simp), .none, fun x hx => (by cases hx), fun c e => (by cases e), o0C, by omega, by omega, by omega, by omega, by omega⟩
          have et : txnS rev comp L0 r = ⟨0, tk, (opsS rev L0 l).1, (opsS rev L0 l).2⟩:= by unfold txnS; rw [if_pos hck, ← htk, ← ebt, if_neg (by simp), if_pos hf, hl]
          rw [et]
          repeat' (first | (with_reducible refine stopC [1, 0, 1, 1, 1, 1, 1, 1, 1, 1, 1, 1] ?_) | ((with_reducible refine st1 ?_); (conv => whnf); (with_reducible refine ⟨?_⟩)) | ((with_reducible refine retW_intro rfl ?_); (conv => arg 2; whnf)) | ((with_reducible first | refine iB ?_ ?_ | refine gWt ?_ ?_ | refine gWf ?_ ?_) <;> intro hb <;> (try simp only [hb])) | (simp only [B, xB, F, reduceLT, reduceLeDiff, reduceEqDiff, reduceAdd, reduceMul, reduceSub, ↓reduceIte, eq_self, g0, g4, g5, g7, g8, k5A, ← hCe, ova, hlenA]))
          refine ⟨?_⟩
          have hBl := hB tk
          rw [← hl] at hBl
          refine opsLoop h0 hC h5.nx bm ro hC.nx h1.nx h6.nx hA.nx L0 v0 rev comp tk l va hTx svA (by rw [hl]; exact zva) hr hs hzL hBl (by rw [hl]; exact checkR_kind hck tk) (by omega) (fun c e => by have := hv0 c e; omega) _ (by simp only [B, xB, F, reduceLT, reduceLeDiff, reduceEqDiff, reduceAdd, reduceMul, reduceSub, ↓reduceIte, eq_self, g0]) (by simp only [B, xB, F, reduceLT, reduceLeDiff, reduceEqDiff, reduceAdd, reduceMul, reduceSub, ↓reduceIte, eq_self, g4]) (by simp only [B, xB, F, reduceLT, reduceLeDiff, reduceEqDiff, reduceAdd, reduceMul, reduceSub, ↓reduceIte, eq_self, g5]) (by simp only [B, xB, F, reduceLT, reduceLeDiff, reduceEqDiff, reduceAdd, reduceMul, reduceSub, ↓reduceIte, eq_self, g7]) (by exact sT) (by exact sT) (by exact sT) (by exact sT) _ ?_
          intro tm3 hD w xs rw_ f0 f4 f5 f7 hxs hTy
          repeat' (first | (with_reducible refine stopC [1, 1, 1, 1, 1, 1, 1, 1, 1, 1, 1] ?_) | ((with_reducible refine st1 ?_); (conv => whnf); (with_reducible refine ⟨?_⟩)) | ((with_reducible refine retW_intro rfl ?_); (conv => arg 2; whnf)) | ((with_reducible first | refine iB ?_ ?_ | refine gWt ?_ ?_ | refine gWf ?_ ?_) <;> intro hb <;> (try simp only [hb])) | (simp only [B, xB, F, reduceLT, reduceLeDiff, reduceEqDiff, reduceAdd, reduceMul, reduceSub, ↓reduceIte, eq_self]))
          refine ⟨?_⟩
          have hBe := hBl l.length (Nat.le_refl _)
          rw [List.take_length] at hBe
          refine txnEnd h0 hD h5.nx bm ro hC.nx h1.nx h6.nx hA.nx L0 v0 rev comp tk _ w xs rw_ hTy gv lbm hne hr (by have := hBe.2; omega) tm3 f0 f4 f5 f7 _ ?_
          intro v h' v1 tp
          rw [hxs] at tp
          exact ⟨xs, rw_, v1, tp⟩
    cases tk with
    | true =>
      repeat' (first | (with_reducible refine stopC [1, 1, 1, 1, 1, 1, 1] ?_) | ((with_reducible refine st1 ?_); (conv => whnf); (with_reducible refine ⟨?_⟩)) | ((with_reducible refine retW_intro rfl ?_); (conv => arg 2; whnf)) | ((with_reducible first | refine iB ?_ ?_ | refine gWt ?_ ?_ | refine gWf ?_ ?_) <;> intro hb <;> (try simp only [hb])) | (simp only [B, xB, F, reduceLT, reduceLeDiff, reduceEqDiff, reduceAdd, reduceMul, reduceSub, ↓reduceIte, eq_self, htk2, z0', z1', z2', z3', z4', z5', z6', z7', oc, ot, oe]))
      refine ⟨?_⟩
      exact rest _ (by exact sT) (by exact sT) (by exact sT) (by exact sT) (by rw [hva]; exact sT)
    | false =>
      repeat' (first | (with_reducible refine stopC [1, 1, 1, 1, 1, 1, 1] ?_) | ((with_reducible refine st1 ?_); (conv => whnf); (with_reducible refine ⟨?_⟩)) | ((with_reducible refine retW_intro rfl ?_); (conv => arg 2; whnf)) | ((with_reducible first | refine iB ?_ ?_ | refine gWt ?_ ?_ | refine gWf ?_ ?_) <;> intro hb <;> (try simp only [hb])) | (simp only [B, xB, F, reduceLT, reduceLeDiff, reduceEqDiff, reduceAdd, reduceMul, reduceSub, ↓reduceIte, eq_self, htk2, z0', z1', z2', z3', z4', z5', z6', z7', oc, ot, oe]))
      refine ⟨?_⟩
      exact rest _ (by exact sT) (by exact sT) (by exact sT) (by exact sT) (by rw [hva]; simp only [B, xB, F, reduceLT, reduceLeDiff, reduceEqDiff, reduceAdd, reduceMul, reduceSub, ↓reduceIte, eq_self, Bool.false_eq_true])
  · have de : decide (e = 0) = false := decide_eq_false qe
    have et : txnS rev comp L0 r = ⟨e, false, [], []⟩:= by unfold txnS; rw [if_neg (by rw [← he]; exact qe), he]
    rw [et]
    obtain ⟨h5, h5e⟩ : ∃ h5, h5 = h4.sts h1.nx 0 (ansC e 0 0 false .nilslice) := ⟨_, rfl⟩
    have A5 : CellsAt h5 h1.nx 0 (ansC e 0 0 false .nilslice):= by rw [h5e]; exact CellsAt.sts w44 _
    obtain ⟨c0, c1, c2, c3, c4, c5, c6, c7, c8⟩ := A5.u9
    have o05 : Og h0 h5 []:= by rw [h5e]; exact o04.sts (.inr (by omega))
    unfold ansC at h5e
    refine rN ?_ (V a0<|V w43<|V h4e.symm<|V b0<|V b1<|V b2<|V b3<|V b4<|V b5<|V b6<|V b7<|V b8<|V de<|V @Bool.not_false<|V w44<|V h5e.symm<|V c0<|V c1<|V c2<|V c3<|V c4<|V c5<|V c6<|V c7<|c8)
    exact ⟨[], .nilslice, v0, TxPost.bad (b4 := 0) md gv hne o05⟩
end
end Go.Proofs.Ytnedigoajoflaaa.M

namespace Go.Proofs.Ytnedigoajoflaaa.M
open Go Go.AX
noncomputable section
set_option maxRecDepth 100000
structure Ap where
 err : Nat
 rev : Nat
 comp : Nat
 tk : Bool
 rs : List Res
 R : List Rec
def compS (rev comp : Nat) (n : Nat) : Nat × Nat := if n ≤ comp then (9, comp) else if rev < n then (10, comp) else (0, n)
def applyS (rev comp : Nat) (L0 : List Rec) (r : Rq) : Ap :=
 if r.kind = 0 then ⟨(txnS rev comp L0 r).err, if (txnS rev comp L0 r).R = [] then rev else rev + 1, comp, (txnS rev comp L0 r).tk, (txnS rev comp L0 r).rs, (txnS rev comp L0 r).R⟩
 else if r.kind = 1 then ⟨(compS rev comp r.rev).1, rev, (compS rev comp r.rev).2, false, [], []⟩
 else ⟨11, rev, comp, false, [], []⟩
structure ApPost (h0 h' : H) (bm : Nat) (L0 : List Rec) (a : Ap) (v : AV) (xs : List RV) (rw_ v1 v0 : AV) : Prop where
 v : v = .agg (ansC a.err a.rev a.comp a.tk rw_)
 hx : xs.map (·.1) = a.rs
 ok : RowOk h' rw_ xs
 md : MdAt h' bm (L0 ++ a.R) a.rev a.comp v1
 gv : Grows 8 0 h' v1 (L0 ++ a.R).length ((L0 ++ a.R).flatMap Rec.cs)
 oo : Og h0 h' [bm]
 nv : ∀ c, blkOf v1 = some c → c ≠ bm
 vb : ∀ c, blkOf v1 = some c → blkOf v0 = some c ∨ h0.nx ≤ c
 rb : ∀ c, blkOf rw_ = some c → h0.nx ≤ c
 xb : ∀ x, x ∈ xs → (∀ c, blkOf x.2.1 = some c → h0.nx ≤ c) ∧ (∀ c, blkOf x.2.2 = some c → h0.nx ≤ c)
theorem RowOk.nil (h : H) : RowOk h .nilslice [] := ⟨.none, fun x hx => by cases hx⟩
set_option maxHeartbeats 4000000 in
theorem compC (h0 : H) (bm : Nat) (L0 : List Rec) (rev comp : Nat) (v0 : AV) (md : MdAt h0 bm L0 rev comp v0) (gv : Grows 8 0 h0 v0 L0.length (L0.flatMap Rec.cs)) (hne : ∀ c, blkOf v0 = some c → c ≠ bm) (r : Rq) (vc vt ve : AV) (ra : RqAt h0 r vc vt ve) :
  PushC P (.enter 21 [.ptr bm 0, .agg (r.cs vc vt ve)] h0) fun v h' => v = .agg (ansC (compS rev comp r.rev).1 0 0 false .nilslice) ∧ Og h0 h' [bm] ∧ MdAt h' bm L0 rev (compS rev comp r.rev).2 v0 ∧ Grows 8 0 h' v0 L0.length (L0.flatMap Rec.cs) := by
 have oc := sl_one ra.sc
 have ot := sl_one ra.st
 have oe := sl_one ra.se
 have lbm := md.lt
 have bx := rqAll h0 r vc vt ve oc ot oe
 obtain ⟨h1, h1e⟩ : ∃ h1, h1 = h0.newCells 31 (r.cs vc vt ve) := ⟨_, rfl⟩
 rw [← h1e] at bx
 have o1 : Og h0 h1 []:= by rw [h1e]; exact (Og.refl _ _).new _ _
 have x1 : h1.nx = h0.nx + 1:= by rw [h1e]; rfl
 have Y1 : CellsAt h1 h0.nx 0 (r.cs vc vt ve):= by rw [h1e]; exact CellsAt.new _ _ _
 obtain ⟨h2, h2e, o2, x2, w42, A2⟩ := ansNew h1
 have o12 := o1.t o2
 obtain ⟨y0, y1, y2, y3, y4, y5, y6, y7⟩ := (gC Y1 o2 (by omega) (by simp)).u8
 have m2 := md.keep o12.1.1 (o12.1.2 bm lbm (by simp)) (fun c e => o12.1.2 c (gv.base e).2 (by simp))
 have m21 := m2.c1
 have m22 := m2.c2
 have m20 := m2.c0
 have wm2 := m2.wr
 obtain ⟨a0, a1, a2, a3, a4, a5, a6, a7, a8⟩ := A2.u9
 -- an error
 have bad : ∀ e : Nat, ∃ h3, (h2.sts h1.nx 0 [.int .i64 (.ofNat e)]).sts h1.nx 0 [.int .i64 (.ofNat e), .int .u64 (.ofNat 0), .int .u64 (.ofNat 0), .bool false, .nilslice, .int .u32 (.ofNat 0), .int .u64 (.ofNat 0), .int .u64 (.ofNat 0), .int .i64 (.ofNat 0)] = h3 ∧ CellsAt (h2.sts h1.nx 0 [.int .i64 (.ofNat e)]) h1.nx 0 (ansC e 0 0 false .nilslice) ∧ CellsAt h3 h1.nx 0 (ansC e 0 0 false .nilslice) ∧ Og h0 h3 [] := fun e => by
  refine ⟨_, rfl, ?_, CellsAt.sts (by rw [wrAt_sts]; exact w42) _, (o12.sts (.inr (by omega))).sts (.inr (by omega))⟩
  have := A2.put w42 (j := 0) (by simp [ansC]) (.int .i64 (.ofNat e))
  rw [Nat.zero_add] at this
  exact this
 by_cases q1 : r.rev ≤ comp
 ·have d1 : decide (r.rev ≤ comp) = true := decide_eq_true q1
  have e : compS rev comp r.rev = (9, comp):= by unfold compS; rw [if_pos q1]
  obtain ⟨h3, h3e, A3, A4, o3⟩ := bad 9
  obtain ⟨b0, b1, b2, b3, b4, b5, b6, b7, b8⟩ := A3.u9
  obtain ⟨c0, c1, c2, c3, c4, c5, c6, c7, c8⟩ := A4.u9
  have w43 : wrAt (h2.sts h1.nx 0 [.int .i64 (.ofNat 9)]) h1.nx = true:= by rw [wrAt_sts]; exact w42
  obtain ⟨hx, hxe⟩ : ∃ hx, hx = h2.sts h1.nx 0 [.int .i64 (.ofNat 9)] := ⟨_, rfl⟩
  rw [← hxe] at h3e b0 b1 b2 b3 b4 b5 b6 b7 b8 w43
  rw [e]
  refine pushC_of_codeW (fn := Try.f21) (c := bodyC Try.f21) Try.func21 rfl ?_
  show codeW P 21 29 none _ _ _ _ _
  refine codeW_root ?_
  refine rT ?_ (V bx<|V h2e<|V y7<|V m22<|V d1<|V a0<|V w42<|V hxe.symm<|V b0<|V b1<|V b2<|V b3<|V b4<|V b5<|V b6<|V b7<|V b8<|V w43<|V h3e<|V c0<|V c1<|V c2<|V c3<|V c4<|V c5<|V c6<|V c7<|c8)
  exact ⟨rfl, ⟨⟨o3.1.1, fun c hc _ => o3.1.2 c hc (by simp)⟩, o3.2⟩, md.keep o3.1.1 (o3.1.2 bm lbm (by simp)) (fun c e => o3.1.2 c (gv.base e).2 (by simp)), gv.of_get o3.1.1 (fun c e => o3.1.2 c (gv.base e).2 (by simp))⟩
 ·have d1 : decide (r.rev ≤ comp) = false := decide_eq_false q1
  by_cases q2 : rev < r.rev
  ·have d2 : decide (rev < r.rev) = true := decide_eq_true q2
   have e : compS rev comp r.rev = (10, comp):= by unfold compS; rw [if_neg q1, if_pos q2]
   obtain ⟨h3, h3e, A3, A4, o3⟩ := bad 10
   obtain ⟨b0, b1, b2, b3, b4, b5, b6, b7, b8⟩ := A3.u9
   obtain ⟨c0, c1, c2, c3, c4, c5, c6, c7, c8⟩ := A4.u9
   have w43 : wrAt (h2.sts h1.nx 0 [.int .i64 (.ofNat 10)]) h1.nx = true:= by rw [wrAt_sts]; exact w42
   obtain ⟨hx, hxe⟩ : ∃ hx, hx = h2.sts h1.nx 0 [.int .i64 (.ofNat 10)] := ⟨_, rfl⟩
   rw [← hxe] at h3e b0 b1 b2 b3 b4 b5 b6 b7 b8 w43
   rw [e]
   refine pushC_of_codeW (fn := Try.f21) (c := bodyC Try.f21) Try.func21 rfl ?_
   show codeW P 21 29 none _ _ _ _ _
   refine codeW_root ?_
   refine rT ?_ (V bx<|V h2e<|V y7<|V m21<|V m22<|V d1<|V d2<|V a0<|V w42<|V hxe.symm<|V b0<|V b1<|V b2<|V b3<|V b4<|V b5<|V b6<|V b7<|V b8<|V w43<|V h3e<|V c0<|V c1<|V c2<|V c3<|V c4<|V c5<|V c6<|V c7<|c8)
   exact ⟨rfl, ⟨⟨o3.1.1, fun c hc _ => o3.1.2 c hc (by simp)⟩, o3.2⟩, md.keep o3.1.1 (o3.1.2 bm lbm (by simp)) (fun c e => o3.1.2 c (gv.base e).2 (by simp)), gv.of_get o3.1.1 (fun c e => o3.1.2 c (gv.base e).2 (by simp))⟩
  ·have d2 : decide (rev < r.rev) = false := decide_eq_false q2
   have e : compS rev comp r.rev = (0, r.rev):= by unfold compS; rw [if_neg q1, if_neg q2]
   obtain ⟨h3, h3e⟩ : ∃ h3, h3 = h2.sts bm 2 [.int .u64 (.ofNat r.rev)] := ⟨_, rfl⟩
   have o3 : Og h2 h3 [bm]:= by rw [h3e]; exact (Og.refl _ _).sts (.inl (by simp))
   have M3 := (CellsAt.m3 m20 m21 m22).put wm2 (j := 2) (by simp) (.int .u64 (.ofNat r.rev))
   rw [Nat.zero_add, ← h3e] at M3
   obtain ⟨p0, p1, p2⟩ := CellsAt.u3 (show CellsAt h3 bm 0 [v0, .int .u64 (.ofNat rev), .int .u64 (.ofNat r.rev)] from M3)
   have wm3 : wrAt h3 bm = true:= by rw [h3e, wrAt_sts]; exact wm2
   have x3 : h3.nx = h2.nx:= by rw [h3e, nx_sts]
   have A3 := gC A2 o3 (by omega) (by simp; omega)
   have w43 := kw w42 o3 (by omega) (by simp; omega)
   obtain ⟨b0, b1, b2, b3, b4, b5, b6, b7, b8⟩ := A3.u9
   obtain ⟨h4, h4e⟩ : ∃ h4, h4 = h3.sts h1.nx 0 (ansC 0 0 0 false .nilslice) := ⟨_, rfl⟩
   have A4 : CellsAt h4 h1.nx 0 (ansC 0 0 0 false .nilslice):= by rw [h4e]; exact CellsAt.sts w43 _
   obtain ⟨c0, c1, c2, c3, c4, c5, c6, c7, c8⟩ := A4.u9
   have k4 : ∀ c, c ≠ h1.nx → h4.t.get c = h3.t.get c := fun c hc => by rw [h4e, get_sts _ _ _ _ hc]
   have x4 : h4.nx = h3.nx:= by rw [h4e, nx_sts]
   unfold ansC at h4e
   rw [e]
   refine pushC_of_codeW (fn := Try.f21) (c := bodyC Try.f21) Try.func21 rfl ?_
   show codeW P 21 29 none _ _ _ _ _
   refine codeW_root ?_
   refine rT ?_ (V bx<|V h2e<|V y7<|V m21<|V m22<|V d1<|V d2<|V wm2<|V h3e.symm<|V b0<|V b1<|V b2<|V b3<|V b4<|V b5<|V b6<|V b7<|V b8<|V w43<|V h4e.symm<|V c0<|V c1<|V c2<|V c3<|V c4<|V c5<|V c6<|V c7<|c8)
   have kk : ∀ c, c < h0.nx → c ≠ bm → h4.t.get c = h0.t.get c := fun c hc hn => by rw [k4 c (by omega), o3.1.2 c (by omega) (by simp [hn]), o12.1.2 c hc (by simp)]
   have g4 : Grows 8 0 h4 v0 L0.length (L0.flatMap Rec.cs) := gv.of_get (by omega) (fun c e => kk c (gv.base e).2 (hne c e))
   exact ⟨rfl, ⟨⟨by omega, fun c hc hn => kk c hc (by simpa using hn)⟩, by rw [h4e, g_sts, o3.2, o12.2]⟩, ⟨by omega, by rw [cellAt_of_get (k4 bm (by omega))]; exact p0, by rw [cellAt_of_get (k4 bm (by omega))]; exact p1, by rw [cellAt_of_get (k4 bm (by omega))]; exact p2, by rw [wrAt_of_get (k4 bm (by omega))]; exact wm3, g4.slice⟩, g4⟩
theorem applyTail (h0 h : H) (bm b4 : Nat) (L : List Rec) (err r0 c0 rev comp : Nat) (tk : Bool) (xs : List RV) (rw_ v1 : AV) (A : CellsAt h b4 0 (ansC err r0 c0 tk rw_)) (w4 : wrAt h b4 = true) (md : MdAt h bm L rev comp v1) (gv : Grows 8 0 h v1 L.length (L.flatMap Rec.cs)) (ok : RowOk h rw_ xs) (oo : Og h0 h [bm]) (l4 : h0.nx ≤ b4) (lb : bm < h0.nx) (h4 : b4 < h.nx)
  (b1 : ∀ c, blkOf rw_ = some c → c ≠ b4) (b2 : ∀ x, x ∈ xs → (∀ c, blkOf x.2.1 = some c → c ≠ b4) ∧ (∀ c, blkOf x.2.2 = some c → c ≠ b4)) (hv : ∀ c, blkOf v1 = some c → c ≠ b4) (nv : ∀ c, blkOf v1 = some c → c ≠ bm)
  (tm : T AV) (t0 : tm.get 0 = some (.ptr bm 0)) (t4 : tm.get 4 = some (.ptr b4 0)) (Q : AV → H → Prop) (hQ : ∀ v h', v = .agg (ansC err rev comp tk rw_) → RowOk h' rw_ xs → MdAt h' bm L rev comp v1 → Grows 8 0 h' v1 L.length (L.flatMap Rec.cs) → Og h0 h' [bm] → Q v h') :
  codeW P 9 32 none (codeI (bodyC Try.f9) [1, 1, 1]) [] tm h (retK P Try.f9 Q) := by
 have ro := sl_one ok.gr
 have m1 := md.c1
 have m2 := md.c2
 obtain ⟨a0, a1, a2, a3, a4, a5, a6, a7, a8⟩ := A.u9
 obtain ⟨h1, h1e⟩ : ∃ h1, h1 = (h.sts b4 1 [.int .u64 (.ofNat rev)]).sts b4 2 [.int .u64 (.ofNat comp)] := ⟨_, rfl⟩
 have A1 : CellsAt h1 b4 0 (ansC err rev comp tk rw_) := by
  have q1 := A.put w4 (j := 1) (by simp [ansC]) (.int .u64 (.ofNat rev))
  have q2 := q1.put (by rw [wrAt_sts]; exact w4) (j := 2) (by simp [ansC]) (.int .u64 (.ofNat comp))
  rw [Nat.zero_add, Nat.zero_add, ← h1e] at q2
  exact q2
 have w41 : wrAt h1 b4 = true:= by rw [h1e, wrAt_sts, wrAt_sts]; exact w4
 obtain ⟨c0', c1, c2, c3, c4, c5, c6, c7, c8⟩ := A1.u9
 obtain ⟨h2, h2e⟩ : ∃ h2, h2 = h1.sts b4 0 (ansC err rev comp tk rw_) := ⟨_, rfl⟩
 have A2 : CellsAt h2 b4 0 (ansC err rev comp tk rw_):= by rw [h2e]; exact CellsAt.sts w41 _
 obtain ⟨e0, e1, e2, e3, e4, e5, e6, e7, e8⟩ := A2.u9
 have k2 : ∀ c, c ≠ b4 → h2.t.get c = h.t.get c := fun c hc => by rw [h2e, get_sts _ _ _ _ hc, h1e, get_sts _ _ _ _ hc, get_sts _ _ _ _ hc]
 have x2 : h2.nx = h.nx:= by rw [h2e, nx_sts, h1e, nx_sts, nx_sts]
 have hg : h2.g = h.g:= by rw [h2e, g_sts, h1e, g_sts, g_sts]
 have n1 : (bm = b4) = False:= by simp; omega
 unfold ansC at h2e
 refine rT ?_ (V t0<|V t4<|V m1<|V m2<|V n1<|V a1<|V a2<|V w4<|V h1e.symm<|V c0'<|V c1<|V c2<|V c3<|V c4<|V c5<|V c6<|V c7<|V c8<|V w41<|V ro<|V h2e.symm<|V e0<|V e1<|V e2<|V e3<|V e4<|V e5<|V e6<|V e7<|e8)
 refine hQ _ _ rfl ⟨ok.gr.move (by omega) (fun c e => k2 c (b1 c e)), fun x hx => ⟨(ok.ok x hx).1.move (by omega) (fun c e => k2 c ((b2 x hx).1 c e)), (ok.ok x hx).2.move (by omega) (fun c e => k2 c ((b2 x hx).2 c e))⟩⟩ (md.keep (by omega) (k2 bm (by omega)) (fun c e => k2 c (hv c e))) (gv.of_get (by omega) (fun c e => k2 c (hv c e))) ⟨⟨by have := oo.1.1; omega, fun c hc hn => by rw [k2 c (by omega)]; exact oo.1.2 c hc hn⟩, hg.trans oo.2⟩
set_option maxHeartbeats 4000000 in
theorem applyC (h0 : H) (bm : Nat) (L0 : List Rec) (rev comp : Nat) (v0 : AV) (md : MdAt h0 bm L0 rev comp v0) (gv : Grows 8 0 h0 v0 L0.length (L0.flatMap Rec.cs)) (hne : ∀ c, blkOf v0 = some c → c ≠ bm) (r : Rq) (vc vt ve : AV) (ra : RqAt h0 r vc vt ve)
  (hm : ∀ x, x ∈ L0 → x.main ≤ rev) (hr : rev ≤ 1000000) (hs : Short L0) (hzL : L0.length ≤ 200000)
  (hB : ∀ tk i, i ≤ (brV r tk).length → Short (opsS rev L0 ((brV r tk).take i)).2 ∧ (opsS rev L0 ((brV r tk).take i)).2.length ≤ 200000) :
  PushC P (.enter 9 [.ptr bm 0, .agg (r.cs vc vt ve)] h0) fun v h' => ∃ xs rw_ v1, ApPost h0 h' bm L0 (applyS rev comp L0 r) v xs rw_ v1 v0 := by
 have oc := sl_one ra.sc
 have ot := sl_one ra.st
 have oe := sl_one ra.se
 have lbm := md.lt
 have hv0 : ∀ c, blkOf v0 = some c → c < h0.nx := fun c e => (gv.base e).2
 have bx := rqAll h0 r vc vt ve oc ot oe
 obtain ⟨h1, h1e⟩ : ∃ h1, h1 = h0.newCells 31 (r.cs vc vt ve) := ⟨_, rfl⟩
 rw [← h1e] at bx
 have o1 : Og h0 h1 []:= by rw [h1e]; exact (Og.refl _ _).new _ _
 have x1 : h1.nx = h0.nx + 1:= by rw [h1e]; rfl
 have Y1 : CellsAt h1 h0.nx 0 (r.cs vc vt ve):= by rw [h1e]; exact CellsAt.new _ _ _
 obtain ⟨h2, h2e, o2, x2, w42, A2⟩ := ansNew h1
 have o12 := o1.t o2
 have Y2 := gC Y1 o2 (by omega) (by simp)
 obtain ⟨y0, y1, y2, y3, y4, y5, y6, y7⟩ := Y2.u8
 have m2 := md.keep o12.1.1 (o12.1.2 bm lbm (by simp)) (fun c e => o12.1.2 c (hv0 c e) (by simp))
 have gv2 := gv.of_get o12.1.1 (fun c e => o12.1.2 c (hv0 c e) (by simp))
 have ra2 := ra.keep o12
 obtain ⟨a0, a1, a2, a3, a4, a5, a6, a7, a8⟩ := A2.u9
 by_cases q0 : r.kind = 0
 ·have d0 : (r.kind == Int.ofNat 0) = true:= by rw [q0]; rfl
  have ea : applyS rev comp L0 r = ⟨(txnS rev comp L0 r).err, if (txnS rev comp L0 r).R = [] then rev else rev + 1, comp, (txnS rev comp L0 r).tk, (txnS rev comp L0 r).rs, (txnS rev comp L0 r).R⟩:= by unfold applyS; rw [if_pos q0]
  rw [ea]
  refine pushC_of_codeW (fn := Try.f9) (c := bodyC Try.f9) Try.func9 rfl ?_
  show codeW P 9 32 none _ _ _ _ _
  refine codeW_root ?_
  refine rN ?_ (V bx<|V h2e<|V y0<|V y1<|V y2<|V y3<|V y4<|V y5<|V y6<|V y7<|d0)
  refine ((txnC h2 bm L0 rev comp v0 m2 gv2 hne r vc vt ve ra2 hm hr hs hzL hB).call P).mono P ?_
  rintro _ h3 ⟨xs, rw_, v1, tp⟩
  obtain ⟨T, hT⟩ : ∃ T, T = txnS rev comp L0 r := ⟨_, rfl⟩
  rw [← hT] at tp ⊢
  obtain ⟨hv, hx, gr, ok, md3, gv3, oo3, nv3, rb, xb, vb⟩ := tp
  unfold ansC at hv
  subst hv
  have x3 := oo3.1.1
  have ro := sl_one gr
  have A3 := gC A2 oo3 (by omega) (by simp; omega)
  have w43 := kw w42 oo3 (by omega) (by simp; omega)
  obtain ⟨b0, b1, b2, b3, b4, b5, b6, b7, b8⟩ := A3.u9
  obtain ⟨h4, h4e⟩ : ∃ h4, h4 = h3.sts h1.nx 0 (ansC T.err 0 0 T.tk rw_) := ⟨_, rfl⟩
  have A4 : CellsAt h4 h1.nx 0 (ansC T.err 0 0 T.tk rw_):= by rw [h4e]; exact CellsAt.sts w43 _
  have w44 : wrAt h4 h1.nx = true:= by rw [h4e, wrAt_sts]; exact w43
  have k4 : ∀ c, c ≠ h1.nx → h4.t.get c = h3.t.get c := fun c hc => by rw [h4e, get_sts _ _ _ _ hc]
  have x4 : h4.nx = h3.nx:= by rw [h4e, nx_sts]
  have vb1 : ∀ c, blkOf v1 = some c → c ≠ h1.nx := fun c e => by
   rcases vb c e with q | q
   ·have := hv0 c q; omega
   ·omega
  unfold ansC at h4e
  repeat' (first | (with_reducible refine stopC [1, 1, 1] ?_) | ((with_reducible refine st1 ?_); (conv => whnf); (with_reducible refine ⟨?_⟩)) | ((with_reducible refine retW_intro rfl ?_); (conv => arg 2; whnf)) | ((with_reducible first | refine iB ?_ ?_ | refine gWt ?_ ?_ | refine gWf ?_ ?_) <;> intro hb <;> (try simp only [hb])) | (simp only [B, xB, F, reduceLT, reduceLeDiff, reduceEqDiff, reduceAdd, reduceMul, reduceSub, ↓reduceIte, eq_self, ro, b0, b1, b2, b3, b4, b5, b6, b7, b8, w43, ← h4e]))
  refine ⟨?_⟩
  have rok : RowOk h4 rw_ xs := ⟨gr.move (by omega) (fun c e => k4 c (by have := rb c e; omega)), fun x hx => ⟨(ok x hx).1.move (by omega) (fun c e => k4 c (by have := (xb x hx).1 c e; omega)), (ok x hx).2.move (by omega) (fun c e => k4 c (by have := (xb x hx).2 c e; omega))⟩⟩
  refine applyTail h0 h4 bm h1.nx _ T.err 0 0 _ comp T.tk xs rw_ v1 A4 w44 (md3.keep (by omega) (k4 bm (by omega)) (fun c e => k4 c (vb1 c e))) (gv3.of_get (by omega) (fun c e => k4 c (vb1 c e))) rok ⟨⟨by omega, fun c hc hn => by rw [k4 c (by omega), oo3.1.2 c (by omega) hn, o12.1.2 c hc (by simp)]⟩, by rw [h4e, g_sts, oo3.2, o12.2]⟩ (by omega) lbm (by omega) (fun c e => by have := rb c e; omega) (fun x hx => ⟨fun c e => by have := (xb x hx).1 c e; omega, fun c e => by have := (xb x hx).2 c e; omega⟩) vb1 nv3 _ (by exact sT) (by exact sT) _ ?_
  intro v h' hv rk m g o
  exact ⟨xs, rw_, v1, hv, hx, rk, m, g, o, nv3, fun c e => by rcases vb c e with q | q; exact .inl q; exact .inr (by omega), fun c e => by have := rb c e; omega, fun x hx => ⟨fun c e => by have := (xb x hx).1 c e; omega, fun c e => by have := (xb x hx).2 c e; omega⟩⟩
 ·have d0 : (r.kind == Int.ofNat 0) = false:= by simpa using q0
  by_cases q1 : r.kind = 1
  ·have d1 : (r.kind == Int.ofNat 1) = true:= by rw [q1]; rfl
   have ea : applyS rev comp L0 r = ⟨(compS rev comp r.rev).1, rev, (compS rev comp r.rev).2, false, [], []⟩:= by unfold applyS; rw [if_neg q0, if_pos q1]
   rw [ea]
   refine pushC_of_codeW (fn := Try.f9) (c := bodyC Try.f9) Try.func9 rfl ?_
   show codeW P 9 32 none _ _ _ _ _
   refine codeW_root ?_
   refine rN ?_ (V bx<|V h2e<|V y0<|V y1<|V y2<|V y3<|V y4<|V y5<|V y6<|V y7<|V d0<|d1)
   refine ((compC h2 bm L0 rev comp v0 m2 gv2 hne r vc vt ve ra2).call P).mono P ?_
   rintro _ h3 ⟨hv, oo3, md3, gv3⟩
   obtain ⟨T, hT⟩ : ∃ T, T = compS rev comp r.rev := ⟨_, rfl⟩
   rw [← hT] at hv md3 ⊢
   unfold ansC at hv
   subst hv
   have x3 := oo3.1.1
   have A3 := gC A2 oo3 (by omega) (by simp; omega)
   have w43 := kw w42 oo3 (by omega) (by simp; omega)
   obtain ⟨b0, b1, b2, b3, b4, b5, b6, b7, b8⟩ := A3.u9
   obtain ⟨h4, h4e⟩ : ∃ h4, h4 = h3.sts h1.nx 0 (ansC T.1 0 0 false .nilslice) := ⟨_, rfl⟩
   have A4 : CellsAt h4 h1.nx 0 (ansC T.1 0 0 false .nilslice):= by rw [h4e]; exact CellsAt.sts w43 _
   have w44 : wrAt h4 h1.nx = true:= by rw [h4e, wrAt_sts]; exact w43
   have k4 : ∀ c, c ≠ h1.nx → h4.t.get c = h3.t.get c := fun c hc => by rw [h4e, get_sts _ _ _ _ hc]
   have x4 : h4.nx = h3.nx:= by rw [h4e, nx_sts]
   have vb1 : ∀ c, blkOf v0 = some c → c ≠ h1.nx := fun c e => by have := hv0 c e; omega
   unfold ansC at h4e
   repeat' (first | (with_reducible refine stopC [1, 1, 1] ?_) | ((with_reducible refine st1 ?_); (conv => whnf); (with_reducible refine ⟨?_⟩)) | ((with_reducible refine retW_intro rfl ?_); (conv => arg 2; whnf)) | ((with_reducible first | refine iB ?_ ?_ | refine gWt ?_ ?_ | refine gWf ?_ ?_) <;> intro hb <;> (try simp only [hb])) | (simp only [B, xB, F, reduceLT, reduceLeDiff, reduceEqDiff, reduceAdd, reduceMul, reduceSub, ↓reduceIte, eq_self, b0, b1, b2, b3, b4, b5, b6, b7, b8, w43, ← h4e]))
   refine ⟨?_⟩
   refine applyTail h0 h4 bm h1.nx _ T.1 0 0 rev T.2 false [] .nilslice v0 A4 w44 (md3.keep (by omega) (k4 bm (by omega)) (fun c e => k4 c (vb1 c e))) (gv3.of_get (by omega) (fun c e => k4 c (vb1 c e))) (RowOk.nil _) ⟨⟨by omega, fun c hc hn => by rw [k4 c (by omega), oo3.1.2 c (by omega) hn, o12.1.2 c hc (by simp)]⟩, by rw [h4e, g_sts, oo3.2, o12.2]⟩ (by omega) lbm (by omega) (fun c e => by cases e) (fun x hx => by cases hx) vb1 hne _ (by exact sT) (by exact sT) _ ?_
   intro v h' hv rk m g o
   exact ⟨[], .nilslice, v0, hv, rfl, rk, by rw [List.append_nil]; exact m, by rw [List.append_nil]; exact g, o, hne, fun c e => .inl e, fun c e => (by cases e), fun x hx => (by cases hx)⟩
  ·have d1 : (r.kind == Int.ofNat 1) = false:= by simpa using q1
   have ea : applyS rev comp L0 r = ⟨11, rev, comp, false, [], []⟩:= by unfold applyS; rw [if_neg q0, if_neg q1]
   rw [ea]
   obtain ⟨h4, h4e⟩ : ∃ h4, h4 = h2.sts h1.nx 0 [.int .i64 (.ofNat 11)] := ⟨_, rfl⟩
   have A4 : CellsAt h4 h1.nx 0 (ansC 11 0 0 false .nilslice) := by
    have := A2.put w42 (j := 0) (by simp [ansC]) (.int .i64 (.ofNat 11))
    rw [Nat.zero_add, ← h4e] at this
    exact this
   have w44 : wrAt h4 h1.nx = true:= by rw [h4e, wrAt_sts]; exact w42
   have k4 : ∀ c, c ≠ h1.nx → h4.t.get c = h2.t.get c := fun c hc => by rw [h4e, get_sts _ _ _ _ hc]
   have x4 : h4.nx = h2.nx:= by rw [h4e, nx_sts]
   have vb1 : ∀ c, blkOf v0 = some c → c ≠ h1.nx := fun c e => by have := hv0 c e; omega
   refine pushC_of_codeW (fn := Try.f9) (c := bodyC Try.f9) Try.func9 rfl ?_
   show codeW P 9 32 none _ _ _ _ _
   refine codeW_root ?_
   repeat' (first | (with_reducible refine stopC [1, 1, 1] ?_) | ((with_reducible refine st1 ?_); (conv => whnf); (with_reducible refine ⟨?_⟩)) | ((with_reducible refine retW_intro rfl ?_); (conv => arg 2; whnf)) | ((with_reducible first | refine iB ?_ ?_ | refine gWt ?_ ?_ | refine gWf ?_ ?_) <;> intro hb <;> (try simp only [hb])) | (simp only [B, xB, F, reduceLT, reduceLeDiff, reduceEqDiff, reduceAdd, reduceMul, reduceSub, ↓reduceIte, eq_self, bx, h2e, y0, y1, y2, y3, y4, y5, y6, y7, d0, d1, a0, w42, ← h4e]))
   refine ⟨?_⟩
   refine applyTail h0 h4 bm h1.nx _ 11 0 0 rev comp false [] .nilslice v0 A4 w44 (m2.keep (by omega) (k4 bm (by omega)) (fun c e => k4 c (vb1 c e))) (gv2.of_get (by omega) (fun c e => k4 c (vb1 c e))) (RowOk.nil _) ⟨⟨by omega, fun c hc hn => by rw [k4 c (by omega), o12.1.2 c hc (by simp)]⟩, by rw [h4e, g_sts, o12.2]⟩ (by omega) lbm (by omega) (fun c e => by cases e) (fun x hx => by cases hx) vb1 hne _ (by exact sT) (by exact sT) _ ?_
   intro v h' hv rk m g o
   exact ⟨[], .nilslice, v0, hv, rfl, rk, by rw [List.append_nil]; exact m, by rw [List.append_nil]; exact g, o, hne, fun c e => .inl e, fun c e => (by cases e), fun x hx => (by cases hx)⟩
end
end Go.Proofs.Ytnedigoajoflaaa.M

namespace Go.Proofs.Ytnedigoajoflaaa.M
open Go Go.AX
noncomputable section
set_option maxRecDepth 100000
def RowK (h : H) (v : AV) (m : Nat) (cs : List AV) : Prop := ((v = .nilslice ∨ v = .slice0) ∧ m = 0 ∧ cs = []) ∨ ∃ b o cap, v = .slice b o m cap ∧ b < h.nx ∧ h.row b o (m * 8) = some cs ∧ cs.length = m * 8
theorem row_get {h h' : H} {b : Nat} (e : h'.t.get b = h.t.get b) (o k : Nat) : h'.row b o k = h.row b o k:= by unfold H.row; rw [e]
theorem RowK.move {h h' : H} {v : AV} {m : Nat} {cs : List AV} (k : RowK h v m cs) (hx : h.nx ≤ h'.nx) (e : ∀ c, blkOf v = some c → h'.t.get c = h.t.get c) : RowK h' v m cs := by
 rcases k with q | ⟨b, o, cap, rfl, hb, hr, hl⟩
 ·exact .inl q
 ·exact .inr ⟨b, o, cap, rfl, by omega, by rw [row_get (e b rfl)]; exact hr, hl⟩
theorem RowK.cells {h : H} {v : AV} {m : Nat} {cs : List AV} (k : RowK h v m cs) : v.cells = [v] := by
 rcases k with ⟨rfl | rfl, -, -⟩ | ⟨b, o, cap, rfl, -, -, -⟩ <;> rfl
theorem RowK.lt {h : H} {v : AV} {m : Nat} {cs : List AV} (k : RowK h v m cs) : ∀ c, blkOf v = some c → c < h.nx := by
 intro c e
 rcases k with ⟨rfl | rfl, -, -⟩ | ⟨b, o, cap, rfl, hb, -, -⟩
 ·cases e
 ·cases e
 ·cases e; exact hb
structure SrAt (h : H) (b : Nat) (L : List Rec) (rev comp : Nat) (v : AV) (S : List Rec) (sv : AV) (at1 : Nat) : Prop where
 lt : b < h.nx
 c : CellsAt h b 0 [v, .int .u64 (.ofNat rev), .int .u64 (.ofNat comp), .int .u64 (.ofNat 0), .int .u64 (.ofNat 0), .nilslice, sv, .int .u64 (.ofNat at1)]
 wr : wrAt h b = true
 gv : Grows 8 0 h v L.length (L.flatMap Rec.cs)
 ss : SliceAt h sv S.length (S.flatMap Rec.cs)
 sk : RowK h sv S.length (S.flatMap Rec.cs)
 nv : ∀ c, blkOf v = some c → c ≠ b
 ns : ∀ c, blkOf sv = some c → c ≠ b
end
end Go.Proofs.Ytnedigoajoflaaa.M

namespace Go.Proofs.Ytnedigoajoflaaa.M
open Go Go.AX
noncomputable section
theorem getR_put (k a : List Nat) (r : Rec) : ∀ W : View, getR k (putV a r W) = if k = a then some r else getR k W
 | [] => by
  unfold putV getR
  rw [List.find?_cons]
  by_cases q : k = a <;> simp [q]
 | (b, x) :: W => by
  have ih := getR_put k a r W
  unfold putV
  by_cases q : a = b
  ·rw [if_pos q]
   unfold getR
   rw [List.find?_cons, List.find?_cons]
   by_cases q2 : k = a
   ·subst q; simp [q2]
   ·have : ¬ k = b := fun e => q2 (by rw [e, q])
    simp [q2, this]
  ·rw [if_neg q]
   unfold getR at ih ⊢
   rw [List.find?_cons, List.find?_cons]
   by_cases q2 : k = b
   ·have : ¬ k = a := fun e => q (by rw [← e, q2])
    simp [q2, this]
    intro e; exact absurd e (fun h => q h.symm)
   ·simp only [decide_eq_false q2]; exact ih
theorem getR_none {k : List Nat} : ∀ {W : View}, k ∉ W.map (·.1) → getR k W = none
 | [], _ => rfl
 | (b, x) :: W, h => by
  rw [List.map_cons, List.mem_cons, not_or] at h
  unfold getR
  rw [List.find?_cons]
  simp only [decide_eq_false h.1]
  exact getR_none h.2
theorem getR_del (k a : List Nat) : ∀ W : View, (W.map (·.1)).Nodup → getR k (delV a W) = if k = a then none else getR k W
 | [], _ => by
  unfold delV getR
  split <;> rfl
 | (b, x) :: W, h => by
  rw [List.map_cons, List.nodup_cons] at h
  have ih := getR_del k a W h.2
  unfold delV
  by_cases q : a = b
  ·rw [if_pos q]
   by_cases q2 : k = a
   ·rw [if_pos q2]
    exact getR_none (by rw [q2, q]; exact h.1)
   ·rw [if_neg q2]
    have : ¬ k = b := fun e => q2 (by rw [e, q])
    unfold getR
    rw [List.find?_cons]
    simp only [decide_eq_false this]
  ·rw [if_neg q]
   unfold getR at ih ⊢
   rw [List.find?_cons, List.find?_cons]
   by_cases q2 : k = b
   ·have : ¬ k = a := fun e => q (by rw [← e, q2])
    rw [if_neg this]
    simp [q2]
   ·simp only [decide_eq_false q2]; exact ih
theorem getR_lay {W : View} (nd : (W.map (·.1)).Nodup) (k : List Nat) (r : Rec) : getR k (layV W r) = if k = r.kv.key then (if r.tomb then none else some r) else getR k W := by
 unfold layV
 cases r.tomb with
 | true => rw [if_pos rfl, getR_del k _ W nd]; rfl
 | false => rw [if_neg (by simp), getR_put]; rfl
theorem ltN_iff : ∀ a b : List Nat, listLtB a b = true ↔ a < b
 | _, [] => by simp [listLtB]
 | [], y :: b => by simp [listLtB]
 | x :: a, y :: b => by
  have ih := ltN_iff a b
  simp only [listLtB]
  rw [List.cons_lt_cons_iff]
  cases h : Nat.blt x y with
  | true =>
   have : x < y := Nat.le_of_ble_eq_true h
   simp [this]
  | false =>
   have hn : ¬ x < y := fun e => by rw [show Nat.blt x y = true from Nat.ble_eq_true_of_le e] at h; cases h
   simp only
   cases h2 : Nat.beq x y with
   | true =>
    have e := Nat.eq_of_beq_eq_true h2
    subst e
    simp only [ih]
    simp
   | false =>
    have hne := Nat.ne_of_beq_eq_false h2
    simp [hn, hne]
theorem leN_le (a b : List Nat) : leN a b ↔ a ≤ b := by
 unfold leN
 rw [← List.not_lt, ← ltN_iff b a]
 simp
theorem insertN_sorted {s : List Nat} : ∀ {l : List (List Nat)}, l.Pairwise leN → (insertS s l).Pairwise leN
 | [], _ => by simp [insertS]
 | t :: l, h => by
  rw [List.pairwise_cons] at h
  simp only [insertS]
  cases hc : listLtB t s with
  | true =>
   simp only [List.pairwise_cons]
   refine ⟨fun x hx => ?_, insertN_sorted h.2⟩
   rcases mem_insertS.1 hx with rfl | hx
   ·rw [leN_le]; exact List.le_of_lt ((ltN_iff _ _).1 hc)
   ·exact h.1 x hx
  | false =>
   have hst : s ≤ t := (leN_le s t).1 hc
   simp only [List.pairwise_cons]
   refine ⟨fun x hx => ?_, h.1, h.2⟩
   rcases List.mem_cons.1 hx with rfl | hx
   ·exact hc
   ·rw [leN_le]; exact List.le_trans hst ((leN_le t x).1 (h.1 x hx))
theorem sortS_sorted : ∀ l : List (List Nat), (sortS l).Pairwise leN
 | [] => List.Pairwise.nil
 | s :: l => insertN_sorted (sortS_sorted l)
def Rise (l : List KV) : Prop := l.Pairwise fun x y => x.key < y.key
theorem getR_mem {k : List Nat} {W : View} {r : Rec} (h : getR k W = some r) : (k, r) ∈ W := by
 unfold getR at h
 obtain ⟨p, hp, e⟩ := Option.map_eq_some_iff.1 h
 have h1 := List.find?_some hp
 have h2 := List.mem_of_find?_eq_some hp
 have : p.1 = k := (of_decide_eq_true h1).symm
 rw [← this, ← e]; exact h2
theorem getR_isSome {k : List Nat} {W : View} : (getR k W).isSome = true ↔ k ∈ W.map (·.1) := by
 constructor
 ·intro h
  obtain ⟨r, hr⟩ := Option.isSome_iff_exists.1 h
  exact List.mem_map.2 ⟨_, getR_mem hr, rfl⟩
 ·intro h
  by_cases q : (getR k W).isSome = true
  ·exact q
  ·exfalso
   have : getR k W = none:= by simpa using q
   unfold getR at this
   rw [Option.map_eq_none_iff, List.find?_eq_none] at this
   obtain ⟨p, hp, e⟩ := List.mem_map.1 h
   have := this p hp
   simp [← e] at this
theorem getKV_key {k : List Nat} {W : View} (v : VOk W) (h : k ∈ W.map (·.1)) : (getKV k W).key = k := by
 obtain ⟨r, hr⟩ := Option.isSome_iff_exists.1 (getR_isSome.2 h)
 unfold getKV; rw [hr]
 exact (v.ky _ (getR_mem hr)).1
theorem inV_rise {W : View} (v : VOk W) (key fin : List Nat) : Rise (inV W key fin) := by
 unfold inV Rise
 rw [List.pairwise_map]
 have hs := sortS_sorted (W.map (·.1))
 have hp := sortS_perm (W.map (·.1))
 have nd : (sortS (W.map (·.1))).Nodup := hp.nodup_iff.2 v.nd
 have h2 : (sortS (W.map (·.1))).Pairwise (fun a b => a < b) := (hs.and nd).imp fun {a b} h => by
  have h1 := (leN_le a b).1 h.1
  exact Std.lt_of_le_of_ne h1 h.2
 have h3 := (h2.filter (fun k => liesB k key fin))
 refine h3.imp_of_mem fun {a b} ha hb h => ?_
 have ma : a ∈ W.map (·.1) := hp.mem_iff.1 ((List.mem_filter.1 ha).1)
 have mb : b ∈ W.map (·.1) := hp.mem_iff.1 ((List.mem_filter.1 hb).1)
 rw [getKV_key v ma, getKV_key v mb]; exact h
theorem inV_mem {W : View} (key fin : List Nat) (x : KV) : x ∈ inV W key fin ↔ ∃ k, k ∈ W.map (·.1) ∧ liesB k key fin = true ∧ x = getKV k W := by
 unfold inV
 rw [List.mem_map]
 constructor
 ·rintro ⟨k, hk, rfl⟩
  rw [List.mem_filter] at hk
  exact ⟨k, (sortS_perm _).mem_iff.1 hk.1, hk.2, rfl⟩
 ·rintro ⟨k, hk, hl, rfl⟩
  exact ⟨k, List.mem_filter.2 ⟨(sortS_perm _).mem_iff.2 hk, hl⟩, rfl⟩
end
end Go.Proofs.Ytnedigoajoflaaa.M

namespace Go.Proofs.Ytnedigoajoflaaa.M
open Go Go.AX
noncomputable section
end
end Go.Proofs.Ytnedigoajoflaaa.M

namespace Go.Proofs.Ytnedigoajoflaaa.M
open Go Go.AX
noncomputable section
set_option maxRecDepth 100000
structure DsH (h0 h : H) (b b3 b4 b5 : Nat) (L : List Rec) (rev comp : Nat) (v : AV) (rq : List AV) (err : Nat) (tk : Bool) (rw_ : AV) : Prop where
 s : SrAt h b L rev comp v [] .nilslice 0
 q : CellsAt h b3 0 rq
 a : CellsAt h b5 0 (ansC err rev comp tk rw_)
 w5 : wrAt h b5 = true
 oo : Og h0 h [b5]
 l3 : b3 < h.nx
 l5 : b5 < h.nx
 n3 : b3 ≠ b5
 n5 : b ≠ b5
 nv5 : ∀ c, blkOf v = some c → c ≠ b5
 a4 : CellsAt h b4 0 (ansC 0 0 0 false .nilslice)
 w4 : wrAt h b4 = true
 l4 : b4 < h.nx
 n4 : b4 ≠ b5
end
end Go.Proofs.Ytnedigoajoflaaa.M

namespace Go.Proofs.Ytnedigoajoflaaa.M
open Go Go.AX
noncomputable section
set_option maxRecDepth 100000
structure RetH (h0 h : H) (b b4 b5 : Nat) (L : List Rec) (rev comp : Nat) (v : AV) (err r2 : Nat) (tk : Bool) (rw_ : AV) : Prop where
 s : SrAt h b L rev comp v [] .nilslice 0
 a4 : CellsAt h b4 0 (ansC err r2 comp tk rw_)
 oo : ∀ c, c < h0.nx → c ≠ b4 → c ≠ b5 → h.t.get c = h0.t.get c
 nx : h0.nx ≤ h.nx
 g : h.g = h0.g
theorem DsH.ret {h0 h h' : H} {b b3 b4 b5 rev comp err : Nat} {L : List Rec} {v rw_ : AV} {rq : List AV} {tk : Bool} (d : DsH h0 h b b3 b4 b5 L rev comp v rq err tk rw_) (e : h' = h.sts b4 0 (ansC err rev comp tk rw_)) (hb : b ≠ b4) (hv : ∀ c, blkOf v = some c → c ≠ b4) : RetH h0 h' b b4 b5 L rev comp v err rev tk rw_ := by
 subst e
 have k : ∀ c, c ≠ b4 → (h.sts b4 0 (ansC err rev comp tk rw_)).t.get c = h.t.get c := fun c hc => get_sts _ _ _ _ hc
 exact ⟨⟨by rw [nx_sts]; exact d.s.lt, d.s.c.of_get (k b hb), by rw [wrAt_of_get (k b hb)]; exact d.s.wr, d.s.gv.of_get (by rw [nx_sts]; exact Nat.le_refl _) (fun c e => k c (hv c e)), .none, .inl ⟨.inl rfl, rfl, rfl⟩, d.s.nv, d.s.ns⟩, CellsAt.sts d.w4 _, fun c hc h4 h5 => by rw [k c h4]; exact d.oo.1.2 c hc (by simp [h5]), by rw [nx_sts]; exact d.oo.1.1, by rw [g_sts]; exact d.oo.2⟩
end
end Go.Proofs.Ytnedigoajoflaaa.M

namespace Go.Proofs.Ytnedigoajoflaaa.M
open Go Go.AX
noncomputable section
set_option maxRecDepth 100000
end
end Go.Proofs.Ytnedigoajoflaaa.M

namespace Go.Proofs.Ytnedigoajoflaaa.M
open Go Go.AX
noncomputable section
set_option maxRecDepth 100000
end
end Go.Proofs.Ytnedigoajoflaaa.M

namespace Go.Proofs.Ytnedigoajoflaaa.M
open Go Go.AX
noncomputable section
set_option maxRecDepth 100000
end
end Go.Proofs.Ytnedigoajoflaaa.M

namespace Go.Proofs.Ytnedigoajoflaaa.M
open Go Go.AX
noncomputable section
set_option maxRecDepth 100000
theorem dropRs_main {rev : Nat} : ∀ (l : List KV) (R : List Rec), (∀ x, x ∈ R → x.main = rev + 1) → ∀ x, x ∈ dropRs rev R l → x.main = rev + 1
 | [], R, h => h
 | y :: l, R, h => dropRs_main l (goneR rev R y) fun x hx => by
  unfold goneR at hx
  rcases List.mem_append.1 hx with q | q
  ·exact h x q
  ·rw [List.mem_singleton] at q; subst q; rfl
theorem opS_main {rev : Nat} {L R : List Rec} {op : Op} (h : ∀ x, x ∈ R → x.main = rev + 1) : ∀ x, x ∈ (opS rev L R op).2 → x.main = rev + 1 := by
 unfold opS
 split
 ·exact h
 ·split
  ·intro x hx
   rcases List.mem_append.1 hx with q | q
   ·exact h x q
   ·rw [List.mem_singleton] at q; subst q; rfl
  ·exact dropRs_main _ _ h
theorem opsS_main {rev : Nat} {L : List Rec} : ∀ (l : List Op) (i : Nat), i ≤ l.length → ∀ x, x ∈ (opsS rev L (l.take i)).2 → x.main = rev + 1
 | l, 0, _ => by rw [List.take_zero]; intro x hx; cases hx
 | l, i + 1, hi => by
  obtain ⟨o, ho⟩ : ∃ o, l[i]? = some o := ⟨_, List.getElem?_eq_getElem (by omega)⟩
  rw [opsS_s ho]
  exact opS_main (opsS_main l i (by omega))
theorem DsH.move {h0 h h' : H} {b b3 b4 b5 rev comp err base : Nat} {L : List Rec} {v rw_ : AV} {rq : List AV} {tk : Bool} (d : DsH h0 h b b3 b4 b5 L rev comp v rq err tk rw_) (hx : h.nx ≤ h'.nx) (e : ∀ c, c < base → h'.t.get c = h.t.get c) (hg : h'.g = h.g) (lb : b < base) (lb3 : b3 < base) (lb4 : b4 < base) (lb5 : b5 < base) (lv : ∀ c, blkOf v = some c → c < base) (l0 : h0.nx ≤ base) : DsH h0 h' b b3 b4 b5 L rev comp v rq err tk rw_ :=
 ⟨⟨Nat.lt_of_lt_of_le d.s.lt hx, d.s.c.of_get (e b lb), by rw [wrAt_of_get (e b lb)]; exact d.s.wr, d.s.gv.of_get hx (fun c q => e c (lv c q)), .none, .inl ⟨.inl rfl, rfl, rfl⟩, d.s.nv, d.s.ns⟩, d.q.of_get (e b3 lb3), d.a.of_get (e b5 lb5), by rw [wrAt_of_get (e b5 lb5)]; exact d.w5, ⟨⟨Nat.le_trans d.oo.1.1 hx, fun c hc hn => by rw [e c (by omega)]; exact d.oo.1.2 c hc hn⟩, hg.trans d.oo.2⟩, Nat.lt_of_lt_of_le d.l3 hx, Nat.lt_of_lt_of_le d.l5 hx, d.n3, d.n5, d.nv5, d.a4.of_get (e b4 lb4), by rw [wrAt_of_get (e b4 lb4)]; exact d.w4, Nat.lt_of_lt_of_le d.l4 hx, d.n4⟩
theorem DsH.putR {h0 h : H} {b b3 b4 b5 rev comp err : Nat} {L : List Rec} {v rw_ : AV} {rq : List AV} {tk : Bool} (d : DsH h0 h b b3 b4 b5 L rev comp v rq err tk rw_) (w2 : AV) : DsH h0 (h.sts b5 4 [w2]) b b3 b4 b5 L rev comp v rq err tk w2 := by
 have k : ∀ c, c ≠ b5 → (h.sts b5 4 [w2]).t.get c = h.t.get c := fun c hc => get_sts _ _ _ _ hc
 have A := d.a.put d.w5 (j := 4) (by simp [ansC]) w2
 rw [Nat.zero_add] at A
 exact ⟨⟨by rw [nx_sts]; exact d.s.lt, d.s.c.of_get (k b d.n5), by rw [wrAt_of_get (k b d.n5)]; exact d.s.wr, d.s.gv.of_get (by rw [nx_sts]; exact Nat.le_refl _) (fun c e => k c (d.nv5 c e)), .none, .inl ⟨.inl rfl, rfl, rfl⟩, d.s.nv, d.s.ns⟩, d.q.of_get (k b3 d.n3), A, by rw [wrAt_sts]; exact d.w5, d.oo.sts (.inl (by simp)), by rw [nx_sts]; exact d.l3, by rw [nx_sts]; exact d.l5, d.n3, d.n5, d.nv5, d.a4.of_get (k b4 d.n4), by rw [wrAt_of_get (k b4 d.n4)]; exact d.w4, by rw [nx_sts]; exact d.l4, d.n4⟩
end
end Go.Proofs.Ytnedigoajoflaaa.M

namespace Go.Proofs.Ytnedigoajoflaaa.M
open Go Go.AX
noncomputable section
set_option maxRecDepth 100000
structure DoPost (h0 h' : H) (b : Nat) (L : List Rec) (rev comp : Nat) (v : AV) (T : Tx) (u : AV) (xs : List RV) (rw_ sv : AV) : Prop where
 u : u = .agg (ansC T.err (if T.R = [] then rev else rev + 1) comp T.tk rw_)
 hx : xs.map (·.1) = T.rs
 ok : RowOk h' rw_ xs
 s : SrAt h' b L rev comp v T.R sv 0
 oo : Og h0 h' [b]
 rb : ∀ c, blkOf rw_ = some c → h0.nx ≤ c
 xb : ∀ x, x ∈ xs → (∀ c, blkOf x.2.1 = some c → h0.nx ≤ c) ∧ (∀ c, blkOf x.2.2 = some c → h0.nx ≤ c)
theorem DoPost.bad {h0 hS h' : H} {b b4 b5 rev comp err : Nat} {L : List Rec} {v : AV} (r : RetH hS h' b b4 b5 L rev comp v err rev false .nilslice) (o : Og h0 hS [b]) (l4 : h0.nx ≤ b4) (l5 : h0.nx ≤ b5) :
  DoPost h0 h' b L rev comp v ⟨err, false, [], []⟩ (.agg (ansC err rev comp false .nilslice)) [] .nilslice .nilslice :=
 ⟨by rw [if_pos rfl], rfl, RowOk.nil _, r.s, ⟨⟨Nat.le_trans o.1.1 r.nx, fun c hc hn => by rw [r.oo c (Nat.lt_of_lt_of_le hc o.1.1) (by omega) (by omega)]; exact o.1.2 c hc hn⟩, r.g.trans o.2⟩, fun c e => (by cases e), fun x hx => (by cases hx)⟩
end
end Go.Proofs.Ytnedigoajoflaaa.M

namespace Go.Proofs.Ytnedigoajoflaaa.M
open Go Go.AX
noncomputable section
set_option maxRecDepth 100000
def pairB (i k : Nat) (x y : Op) : Bool := (x.kind == .ofNat 1) && ((!decide (k = i) && (y.kind == .ofNat 1) && decide (y.key = x.key)) || ((y.kind == .ofNat 2) && liesB x.key y.key y.fin))
def Tw (l : List Op) : Prop := ∃ (i k : Nat) (x y : Op), l[i]? = some x ∧ l[k]? = some y ∧ pairB i k x y = true
end
end Go.Proofs.Ytnedigoajoflaaa.M

namespace Go.Proofs.Ytnedigoajoflaaa.M
open Go Go.AX
noncomputable section
set_option maxRecDepth 100000
def TwEq (l : List Op) : Prop := Tw l ↔ TwP l
end
end Go.Proofs.Ytnedigoajoflaaa.M

namespace Go.Proofs.Ytnedigoajoflaaa.M
open Go Go.AX
noncomputable section
set_option maxRecDepth 100000
end
end Go.Proofs.Ytnedigoajoflaaa.M

namespace Go.Proofs.Ytnedigoajoflaaa.M
open Go Go.AX
noncomputable section
set_option maxRecDepth 100000
theorem RV.at {h : H} {b o n : Nat} {cap : Cap} {l : List RV} (sl : SliceAt h (.slice b o n cap) n (l.flatMap RVcs)) {i : Nat} {x : RV} (hx : l[i]? = some x) : cellAt h b (o + i * 5) = some x.2.1 ∧ cellAt h b (o + (i * 5 + 1)) = some (.bool x.1.more) ∧ cellAt h b (o + (i * 5 + 2)) = some (.int .i64 (.ofNat x.1.cnt)) ∧ cellAt h b (o + (i * 5 + 3)) = some (.int .i64 (.ofNat x.1.del)) ∧ cellAt h b (o + (i * 5 + 4)) = some x.2.2 := by
 have g : ∀ k, k < 5 → cellAt h b (o + (i * 5 + k)) = (RVcs x)[k]? := fun k hk => cells_at RVlen sl hx hk
 exact ⟨g 0 (by omega), g 1 (by omega), g 2 (by omega), g 3 (by omega), g 4 (by omega)⟩
end
end Go.Proofs.Ytnedigoajoflaaa.M

namespace Go.Proofs.Ytnedigoajoflaaa.M
open Go Go.AX
noncomputable section
set_option maxRecDepth 100000
def cntK (k : List Nat) (l : List Op) : Nat := (l.filter fun o => (o.kind == .ofNat 1) && decide (o.key = k)).length
theorem putI_keys {k a : List Nat} {n : Nat} : ∀ {X : IV}, a ∈ (putI k n X).map (·.1) ↔ a = k ∨ a ∈ X.map (·.1)
 | [] => by simp [putI]
 | (b, x) :: X => by
  unfold putI
  by_cases q : k = b
  ·rw [if_pos q]; simp [q]
  ·rw [if_neg q, List.map_cons, List.mem_cons, putI_keys (X := X), List.map_cons, List.mem_cons]
   constructor
   ·rintro (h | h | h)
    ·exact .inr (.inl h)
    ·exact .inl h
    ·exact .inr (.inr h)
   ·rintro (h | h | h)
    ·exact .inr (.inl h)
    ·exact .inl h
    ·exact .inr (.inr h)
theorem putI_nd {k : List Nat} {n : Nat} : ∀ {X : IV}, (X.map (·.1)).Nodup → ((putI k n X).map (·.1)).Nodup
 | [], _ => by simp [putI]
 | (b, x) :: X, h => by
  rw [List.map_cons, List.nodup_cons] at h
  unfold putI
  by_cases q : k = b
  ·rw [if_pos q, List.map_cons, List.nodup_cons]; exact h
  ·rw [if_neg q, List.map_cons, List.nodup_cons]
   exact ⟨fun hm => by rcases putI_keys.1 hm with e | e; exact q e.symm; exact h.1 e, putI_nd h.2⟩
theorem getI_put (k a : List Nat) (n : Nat) : ∀ X : IV, getI k (putI a n X) = if k = a then n else getI k X
 | [] => by
  unfold putI getI
  rw [List.find?_cons]
  by_cases q : k = a <;> simp [q]
 | (b, x) :: X => by
  have ih := getI_put k a n X
  unfold putI
  by_cases q : a = b
  ·rw [if_pos q]
   unfold getI
   rw [List.find?_cons, List.find?_cons]
   by_cases q2 : k = a
   ·subst q; simp [q2]
   ·have : ¬ k = b := fun e => q2 (by rw [e, q])
    simp [q2, this]
  ·rw [if_neg q]
   unfold getI at ih ⊢
   rw [List.find?_cons, List.find?_cons]
   by_cases q2 : k = b
   ·have : ¬ k = a := fun e => q (by rw [← e, q2])
    simp [q2, this]
    intro e; exact absurd e (fun h => q h.symm)
   ·simp only [decide_eq_false q2]; exact ih
theorem getI_mem {k : List Nat} {n : Nat} : ∀ {X : IV}, (X.map (·.1)).Nodup → (k, n) ∈ X → getI k X = n
 | [], _, h => by cases h
 | (b, x) :: X, nd, h => by
  rw [List.map_cons, List.nodup_cons] at nd
  unfold getI
  rw [List.find?_cons]
  by_cases q : k = b
  ·simp only [q, decide_true]
   rcases List.mem_cons.1 h with e | e
   ·cases e; rfl
   ·exact absurd (List.mem_map.2 ⟨_, e, q⟩) nd.1
  ·simp only [decide_eq_false q]
   rcases List.mem_cons.1 h with e | e
   ·cases e; exact absurd rfl q
   ·exact getI_mem nd.2 e
theorem mem_getI {k : List Nat} : ∀ {X : IV}, k ∈ X.map (·.1) → (k, getI k X) ∈ X
 | [], h => by cases h
 | (b, x) :: X, h => by
  unfold getI
  rw [List.find?_cons]
  by_cases q : k = b
  ·simp only [q, decide_true]; simp
  ·simp only [decide_eq_false q]
   rw [List.map_cons, List.mem_cons] at h
   rcases h with e | e
   ·exact absurd e q
   ·exact List.mem_cons_of_mem _ (mem_getI e)
structure PuV (l : List Op) (X : IV) : Prop where
 nd : (X.map (·.1)).Nodup
 cnt : ∀ k, getI k X = cntK k l
 ky : ∀ k, k ∈ X.map (·.1) ↔ 0 < cntK k l
theorem cntK_app (k : List Nat) (a b : List Op) : cntK k (a ++ b) = cntK k a + cntK k b:= by unfold cntK; rw [List.filter_append, List.length_append]
theorem cntK_one (k : List Nat) (o : Op) : cntK k [o] = if (o.kind == .ofNat 1) = true ∧ o.key = k then 1 else 0 := by
 unfold cntK
 cases q : o.kind == .ofNat 1 with
 | false => rw [List.filter_cons_of_neg (by rw [q]; simp), if_neg (by simp)]; rfl
 | true =>
  by_cases q2 : o.key = k
  ·rw [List.filter_cons_of_pos (by rw [q, decide_eq_true q2]; rfl), if_pos ⟨rfl, q2⟩]; rfl
  ·rw [List.filter_cons_of_neg (by rw [q, decide_eq_false q2]; simp), if_neg (fun h => q2 h.2)]; rfl
theorem PuV.fold : ∀ (l l0 : List Op) (X : IV), PuV l0 X → PuV (l0 ++ l) (l.foldl bump X)
 | [], l0, X, h => by rw [List.append_nil]; exact h
 | o :: l, l0, X, h => by
  rw [List.foldl_cons, show l0 ++ o :: l = (l0 ++ [o]) ++ l by simp]
  refine PuV.fold l _ _ ?_
  unfold bump
  cases q : o.kind == .ofNat 1 with
  | false =>
   rw [if_neg (by simp)]
   have e : ∀ k, cntK k (l0 ++ [o]) = cntK k l0 := fun k => by rw [cntK_app, cntK_one, q]; simp
   exact ⟨h.nd, fun k => by rw [e, h.cnt], fun k => by rw [e, h.ky]⟩
  | true =>
   rw [if_pos rfl]
   have e : ∀ k, cntK k (l0 ++ [o]) = if k = o.key then cntK k l0 + 1 else cntK k l0 := fun k => by
    rw [cntK_app, cntK_one, q]
    by_cases q2 : k = o.key
    ·rw [if_pos q2, if_pos ⟨rfl, q2.symm⟩]
    ·rw [if_neg q2, if_neg (fun h => q2 h.2.symm)]; rfl
   refine ⟨putI_nd h.nd, fun k => ?_, fun k => ?_⟩
   ·rw [getI_put, e]
    by_cases q2 : k = o.key
    ·rw [if_pos q2, if_pos q2, h.cnt, q2]
    ·rw [if_neg q2, if_neg q2, h.cnt]
   ·rw [putI_keys, e, h.ky]
    by_cases q2 : k = o.key
    ·rw [if_pos q2]; simp [q2]
    ·rw [if_neg q2]; simp [q2]
theorem puts_ok (l : List Op) : PuV l (putsV l) := by
 have := PuV.fold l [] [] ⟨List.nodup_nil, fun k => rfl, fun k => by simp [cntK]⟩
 rw [List.nil_append] at this
 exact this
theorem cnt_pos {k : List Nat} {l : List Op} : 0 < cntK k l ↔ ∃ o, o ∈ l ∧ o.kind == .ofNat 1 ∧ o.key = k := by
 unfold cntK
 rw [List.length_pos_iff_exists_mem]
 constructor
 ·rintro ⟨o, ho⟩
  rw [List.mem_filter, Bool.and_eq_true, decide_eq_true_iff] at ho
  exact ⟨o, ho.1, ho.2.1, ho.2.2⟩
 ·rintro ⟨o, h1, h2, h3⟩
  exact ⟨o, List.mem_filter.2 ⟨h1, by rw [Bool.and_eq_true, decide_eq_true_iff]; exact ⟨h2, h3⟩⟩⟩
theorem cnt_two {k : List Nat} : ∀ {l : List Op}, 1 < cntK k l ↔ ∃ (i j : Nat) (x y : Op), i ≠ j ∧ l[i]? = some x ∧ l[j]? = some y ∧ x.kind == .ofNat 1 ∧ x.key = k ∧ y.kind == .ofNat 1 ∧ y.key = k
 | [] => by simp [cntK]
 | o :: l => by
  have ih := cnt_two (k := k) (l := l)
  have e : cntK k (o :: l) = cntK k [o] + cntK k l := cntK_app k [o] l
  rw [e, cntK_one]
  constructor
  ·intro h
   by_cases q : (o.kind == .ofNat 1) = true ∧ o.key = k
   ·rw [if_pos q] at h
    obtain ⟨y, hy, h1, h2⟩ := cnt_pos.1 (show 0 < cntK k l by omega)
    obtain ⟨j, hj⟩ := List.mem_iff_getElem?.1 hy
    exact ⟨0, j + 1, o, y, by omega, rfl, by simpa using hj, q.1, q.2, h1, h2⟩
   ·rw [if_neg q] at h
    obtain ⟨i, j, x, y, h1, h2, h3, h4⟩ := ih.1 (by omega)
    exact ⟨i + 1, j + 1, x, y, by omega, by simpa using h2, by simpa using h3, h4⟩
  ·rintro ⟨i, j, x, y, hne, hx, hy, h1, h2, h3, h4⟩
   cases i with
   | zero =>
    simp at hx; subst hx
    rw [if_pos ⟨h1, h2⟩]
    cases j with
    | zero => exact absurd rfl hne
    | succ j =>
     have : 0 < cntK k l := cnt_pos.2 ⟨y, List.mem_of_getElem? (by simpa using hy), h3, h4⟩
     omega
   | succ i =>
    cases j with
    | zero =>
     simp at hy; subst hy
     rw [if_pos ⟨h3, h4⟩]
     have : 0 < cntK k l := cnt_pos.2 ⟨x, List.mem_of_getElem? (by simpa using hx), h1, h2⟩
     omega
    | succ j =>
     have := ih.2 ⟨i, j, x, y, by omega, by simpa using hx, by simpa using hy, h1, h2, h3, h4⟩
     omega
theorem tw_eq (l : List Op) : TwEq l := by
 have pv := puts_ok l
 unfold TwEq Tw TwP
 constructor
 ·rintro ⟨i, k, x, y, hx, hy, hp⟩
  unfold pairB at hp
  rw [Bool.and_eq_true, Bool.or_eq_true, Bool.and_eq_true, Bool.and_eq_true, Bool.and_eq_true] at hp
  obtain ⟨h1, h2⟩ := hp
  have hpos : 0 < cntK x.key l := cnt_pos.2 ⟨x, List.mem_of_getElem? hx, h1, rfl⟩
  have hm := mem_getI ((pv.ky x.key).2 hpos)
  rcases h2 with ⟨⟨h2, h3⟩, h4⟩ | ⟨h2, h3⟩
  ·have h4 := of_decide_eq_true h4
   have hki : ¬ k = i:= by simpa using h2
   have : 1 < cntK x.key l := cnt_two.2 ⟨i, k, x, y, fun e => hki e.symm, hx, hy, h1, rfl, h3, h4⟩
   refine ⟨x, List.mem_of_getElem? hx, _, hm, ?_⟩
   unfold badB
   rw [pv.cnt, decide_eq_true this]; rfl
  ·refine ⟨y, List.mem_of_getElem? hy, _, hm, ?_⟩
   unfold badB
   simp only [h2, h3, Bool.and_self, Bool.or_true]
 ·rintro ⟨o, ho, ⟨k, n⟩, hp, hb⟩
  have hn := getI_mem pv.nd hp
  rw [pv.cnt] at hn
  have hpos := (pv.ky k).1 (List.mem_map.2 ⟨_, hp, rfl⟩)
  unfold badB at hb
  rw [Bool.or_eq_true, Bool.and_eq_true] at hb
  rcases hb with hb | ⟨hb1, hb2⟩
  ·have hb := of_decide_eq_true hb
   simp only at hb
   obtain ⟨i, j, x, y, hne, hx, hy, h1, h2, h3, h4⟩ := cnt_two.1 (show 1 < cntK k l by omega)
   refine ⟨i, j, x, y, hx, hy, ?_⟩
   unfold pairB
   have : ¬ j = i := fun e => hne e.symm
   rw [h1, h3, decide_eq_false this, decide_eq_true (h4.trans h2.symm)]; rfl
  ·obtain ⟨x, hx, h1, h2⟩ := cnt_pos.1 hpos
   obtain ⟨i, hi⟩ := List.mem_iff_getElem?.1 hx
   obtain ⟨j, hj⟩ := List.mem_iff_getElem?.1 ho
   refine ⟨i, j, x, o, hi, hj, ?_⟩
   unfold pairB
   subst h2
   simp only at hb2
   rw [h1, hb1, hb2, Bool.and_self, Bool.or_true, Bool.and_self]
structure Sized (n : Nat) (rev : Nat) (L : List Rec) : Prop where
 sh : Short L
 vw : (atV rev L).length ≤ n
 ln : L.length ≤ n * 300
theorem layV_tomb_len {W : View} {r : Rec} (h : r.tomb = true) : (layV W r).length ≤ W.length := by
 unfold layV; rw [if_pos h]; exact (delV_sub (k := r.kv.key) (W := W)).length_le
theorem drop_len {rev : Nat} : ∀ (l : List KV) (L R : List Rec), (atV (rev + 1) (L ++ dropRs rev R l)).length ≤ (atV (rev + 1) (L ++ R)).length
 | [], L, R => Nat.le_refl _
 | x :: l, L, R => by
  have h1 := drop_len (rev := rev) l L (goneR rev R x)
  have h2 : (atV (rev + 1) (L ++ goneR rev R x)).length ≤ (atV (rev + 1) (L ++ R)).length := by
   unfold goneR
   rw [← List.append_assoc, atV_app (rev + 1) _ (mkR rev R ⟨x.key, [], 0, 0, 0⟩ true) (Nat.le_refl _)]
   exact layV_tomb_len rfl
  exact Nat.le_trans h1 h2
theorem drop_short {rev : Nat} : ∀ (l : List KV) (L R : List Rec), (∀ x, x ∈ l → x.key.length ≤ 1000000) → Short (L ++ R) → Short (L ++ dropRs rev R l)
 | [], L, R, _, h => h
 | x :: l, L, R, hl, h => drop_short l L (goneR rev R x) (fun y hy => hl y (by simp [hy])) (by
  unfold goneR
  intro r hr
  rw [← List.append_assoc] at hr
  rcases List.mem_append.1 hr with q | q
  ·exact h r q
  ·rw [List.mem_singleton] at q; subst q; exact hl x (by simp))
theorem inV_short {m : Nat} {L : List Rec} (h : Short L) (key fin : List Nat) : ∀ x, x ∈ inV (atV m L) key fin → x.key.length ≤ 1000000 := by
 intro x hx
 obtain ⟨k, hk, -, rfl⟩ := (inV_mem key fin x).1 hx
 have v := atV_ok (main := m) h
 rw [getKV_key v hk]
 obtain ⟨p, hp, rfl⟩ := List.mem_map.1 hk
 exact (v.ky p hp).2
theorem opS_sized {n rev : Nat} {L R : List Rec} {op : Op} (hk : op.key.length ≤ 1000000) (h : Sized n (rev + 1) (L ++ R)) (hn : n ≤ 299) : Sized (n + 1) (rev + 1) (L ++ (opS rev L R op).2) := by
 obtain ⟨sh, vw, ln⟩ := h
 rw [List.length_append] at ln
 unfold opS
 split
 ·exact ⟨sh, by simp only; omega, by simp only [List.length_append]; omega⟩
 ·split
  ·refine ⟨?_, ?_, ?_⟩
   ·intro r hr
    simp only at hr
    rw [← List.append_assoc] at hr
    rcases List.mem_append.1 hr with q | q
    ·exact sh r q
    ·rw [List.mem_singleton] at q; subst q
     unfold mkR putKV
     split <;> exact hk
   ·simp only
    rw [← List.append_assoc, atV_app (rev + 1) _ (mkR rev R _ false) (Nat.le_refl _)]
    have := layV_len (atV (rev + 1) (L ++ R)) (mkR rev R (putKV rev op (getR op.key (atV (rev + 1) (L ++ R)))) false)
    omega
   ·simp only [List.length_append, List.length_cons, List.length_nil]; omega
  ·have hi := inV_len (atV (rev + 1) (L ++ R)) op.key op.fin
   refine ⟨drop_short _ _ _ (inV_short sh _ _) sh, ?_, ?_⟩
   ·have := drop_len (rev := rev) (inV (atV (rev + 1) (L ++ R)) op.key op.fin) L R
    simp only; omega
   ·simp only [List.length_append]
    have := dropRs_len rev (inV (atV (rev + 1) (L ++ R)) op.key op.fin) R
    omega
theorem opsS_sized {n rev : Nat} {L : List Rec} : ∀ (l : List Op) (i : Nat), i ≤ l.length → (∀ o, o ∈ l → o.key.length ≤ 1000000) → Sized n (rev + 1) L → n + l.length ≤ 299 → Sized (n + i) (rev + 1) (L ++ (opsS rev L (l.take i)).2)
 | l, 0, _, _, h, _ => by rw [List.take_zero]; show Sized n (rev + 1) (L ++ []); rw [List.append_nil]; exact h
 | l, i + 1, hi, hk, h, hn => by
  obtain ⟨o, ho⟩ : ∃ o, l[i]? = some o := ⟨_, List.getElem?_eq_getElem (by omega)⟩
  rw [opsS_s ho]
  have ih := opsS_sized l i (by omega) hk h hn
  exact opS_sized (hk o (List.mem_of_getElem? ho)) ih (show n + i ≤ 299 by omega)
end
end Go.Proofs.Ytnedigoajoflaaa.M

namespace Go.Proofs.Ytnedigoajoflaaa.M
open Go Go.AX
noncomputable section
set_option maxRecDepth 100000
def cutOp (o : Op) : Op := { o with key := o.key.take 20, fin := o.fin.take 20, val := o.val.take 40 }
def cutCmp (c : Cmp) : Cmp := { c with key := c.key.take 20, val := c.val.take 40 }
def cutO (l : List Op) : List Op := (l.take 8).map cutOp
def cutCs (l : List Cmp) : List Cmp := (l.take 6).map cutCmp
def cutR (r : Rq) : Rq := { r with cmps := cutCs r.cmps, th := cutO r.th, el := cutO r.el }
end
end Go.Proofs.Ytnedigoajoflaaa.M

namespace Go.Proofs.Ytnedigoajoflaaa.M
open Go Go.AX
noncomputable section
set_option maxRecDepth 100000
theorem brV_len (r : Rq) (tk : Bool) : (brV (cutR r) tk).length ≤ 8 := by
 unfold brV cutR cutO
 split <;> (simp only [List.length_map, List.length_take]; omega)
theorem brV_key (r : Rq) (tk : Bool) : ∀ o, o ∈ brV (cutR r) tk → o.key.length ≤ 1000000 := by
 have h : ∀ (l : List Op) o, o ∈ cutO l → o.key.length ≤ 1000000 := fun l o ho => by
  unfold cutO at ho
  obtain ⟨x, -, rfl⟩ := List.mem_map.1 ho
  show (x.key.take 20).length ≤ _
  rw [List.length_take]; omega
 unfold brV
 split
 ·exact h _
 ·exact h _
theorem checkR_len {r : Rq} (h : checkR r = 0) (tk : Bool) : (brV r tk).length ≤ 6 := by
 unfold checkR at h
 split at h
 ·rename_i q
  unfold brV
  split
  ·exact q.2.2.1
  ·exact q.2.2.2.1
 ·cases h
theorem Sized.mono {n m rev : Nat} {L : List Rec} (h : Sized n rev L) (hm : n ≤ m) : Sized m rev L := ⟨h.sh, Nat.le_trans h.vw hm, Nat.le_trans h.ln (Nat.mul_le_mul_right _ hm)⟩
theorem Sized.up {n rev : Nat} {L : List Rec} (h : Sized n rev L) (hm : ∀ x, x ∈ L → x.main ≤ rev) : Sized n (rev + 1) L := ⟨h.sh, by rw [← atV_up hm]; exact h.vw, h.ln⟩
structure MOk (n rev : Nat) (L : List Rec) : Prop where
 sz : Sized n rev L
 mn : ∀ x, x ∈ L → x.main ≤ rev
theorem short_app {L R : List Rec} (h : Short (L ++ R)) : Short R := fun r hr => h r (by simp [hr])
theorem MOk.ops {n rev : Nat} {L : List Rec} (h : MOk n rev L) (hn : n ≤ 240) (r : Rq) (tk : Bool) (i : Nat) (hi : i ≤ (brV (cutR r) tk).length) : Sized (n + i) (rev + 1) (L ++ (opsS rev L ((brV (cutR r) tk).take i)).2) :=
 opsS_sized _ i hi (brV_key r tk) (h.sz.up h.mn) (by have := brV_len r tk; omega)
theorem MOk.hB {n rev : Nat} {L : List Rec} (h : MOk n rev L) (hn : n ≤ 240) (r : Rq) (tk : Bool) (i : Nat) (hi : i ≤ (brV (cutR r) tk).length) : Short (opsS rev L ((brV (cutR r) tk).take i)).2 ∧ (opsS rev L ((brV (cutR r) tk).take i)).2.length ≤ 200000 := by
 have s := h.ops hn r tk i hi
 have := brV_len r tk
 have h2 := s.ln
 rw [List.length_append] at h2
 exact ⟨short_app s.sh, by omega⟩
theorem txn_cases (rev comp : Nat) (L : List Rec) (r : Rq) : ((txnS rev comp L r).rs = [] ∧ (txnS rev comp L r).R = []) ∨ (checkR r = 0 ∧ ∃ tk, (txnS rev comp L r).rs = (opsS rev L (brV r tk)).1 ∧ (txnS rev comp L r).R = (opsS rev L (brV r tk)).2) := by
 unfold txnS
 split
 ·rename_i q
  split
  ·exact .inl ⟨rfl, rfl⟩
  ·split
   ·exact .inr ⟨q, _, rfl, rfl⟩
   ·exact .inl ⟨rfl, rfl⟩
 ·exact .inl ⟨rfl, rfl⟩
theorem apply_ok {n rev comp : Nat} {L : List Rec} (h : MOk n rev L) (hn : n ≤ 240) (r : Rq) : MOk (n + 6) (applyS rev comp L (cutR r)).rev (L ++ (applyS rev comp L (cutR r)).R) ∧ (applyS rev comp L (cutR r)).rev ≤ rev + 1 := by
 unfold applyS
 split
 ·simp only
  rcases txn_cases rev comp L (cutR r) with ⟨-, e⟩ | ⟨hc, tk, -, e⟩
  ·rw [e, if_pos rfl, List.append_nil]
   exact ⟨⟨h.sz.mono (by omega), h.mn⟩, by omega⟩
  ·rw [e]
   have s := h.ops hn r tk _ (Nat.le_refl _)
   have hm := opsS_main (rev := rev) (L := L) (brV (cutR r) tk) _ (Nat.le_refl _)
   rw [List.take_length] at s hm
   have hl := checkR_len hc tk
   by_cases q : (opsS rev L (brV (cutR r) tk)).2 = []
   ·rw [if_pos q, q, List.append_nil]
    exact ⟨⟨h.sz.mono (by omega), h.mn⟩, by omega⟩
   ·rw [if_neg q]
    refine ⟨⟨s.mono (by omega), fun x hx => ?_⟩, by omega⟩
    rcases List.mem_append.1 hx with q | q
    ·have := h.mn x q; omega
    ·rw [hm x q]; exact Nat.le_refl _
 ·split
  ·rw [List.append_nil]; exact ⟨⟨h.sz.mono (by omega), h.mn⟩, Nat.le_succ _⟩
  ·rw [List.append_nil]; exact ⟨⟨h.sz.mono (by omega), h.mn⟩, Nat.le_succ _⟩
end
end Go.Proofs.Ytnedigoajoflaaa.M

namespace Go.Proofs.Ytnedigoajoflaaa.M
open Go Go.AX
noncomputable section
set_option maxRecDepth 100000
theorem atV_nd (m : Nat) (L : List Rec) : ((atV m L).map (·.1)).Nodup := by
 unfold atV
 have : ∀ (L : List Rec) (W : View), (W.map (·.1)).Nodup → ((L.foldl (fun W r => if r.main ≤ m then layV W r else W) W).map (·.1)).Nodup := by
  intro L
  induction L with
  | nil => intro W h; exact h
  | cons r L ih =>
   intro W h
   rw [List.foldl_cons]
   refine ih _ ?_
   split
   ·exact layV_nd h
   ·exact h
 exact this L [] List.nodup_nil
structure KsOk (rev : Nat) (L : List Rec) (l : List Op) (i : Nat) (R : List Rec) : Prop where
 nd : (R.map (·.kv.key)).Nodup
 src : ∀ r, r ∈ R → (r.tomb = false ∧ ∃ j o, j < i ∧ l[j]? = some o ∧ (o.kind == .ofNat 1) = true ∧ o.key = r.kv.key) ∨
  (r.tomb = true ∧ (∃ j o, j < i ∧ l[j]? = some o ∧ (o.kind == .ofNat 2) = true ∧ liesB r.kv.key o.key o.fin = true) ∧ getR r.kv.key (atV (rev + 1) (L ++ R)) = none)
theorem KsOk.add {rev : Nat} {L R : List Rec} {l : List Op} {i : Nat} (k : KsOk rev L l i R) {r : Rec} (hm : r.main ≤ rev + 1) (hn : r.kv.key ∉ R.map (·.kv.key))
  (hs : (r.tomb = false ∧ ∃ j o, j < i ∧ l[j]? = some o ∧ (o.kind == .ofNat 1) = true ∧ o.key = r.kv.key) ∨ (r.tomb = true ∧ ∃ j o, j < i ∧ l[j]? = some o ∧ (o.kind == .ofNat 2) = true ∧ liesB r.kv.key o.key o.fin = true)) : KsOk rev L l i (R ++ [r]) := by
 have e : atV (rev + 1) (L ++ (R ++ [r])) = layV (atV (rev + 1) (L ++ R)) r:= by rw [← List.append_assoc, atV_app _ _ _ hm]
 refine ⟨?_, fun x hx => ?_⟩
 ·rw [List.map_append, List.nodup_append]
  refine ⟨k.nd, by simp, fun a ha b hb => ?_⟩
  simp at hb; subst hb
  exact fun e => hn (e ▸ ha)
 ·rcases List.mem_append.1 hx with q | q
  ·rcases k.src x q with h | ⟨h1, h2, h3⟩
   ·exact .inl h
   ·refine .inr ⟨h1, h2, ?_⟩
    have hne : ¬ x.kv.key = r.kv.key := fun e2 => hn (e2 ▸ List.mem_map.2 ⟨x, q, rfl⟩)
    rw [e, getR_lay (atV_nd _ _), if_neg hne]
    exact h3
  ·rw [List.mem_singleton] at q; subst q
   rcases hs with h | ⟨h1, h2⟩
   ·exact .inl h
   ·refine .inr ⟨h1, h2, ?_⟩
    rw [e, getR_lay (atV_nd _ _), if_pos rfl, h1]; rfl
theorem KsOk.mono {rev : Nat} {L R : List Rec} {l : List Op} {i j : Nat} (k : KsOk rev L l i R) (h : i ≤ j) : KsOk rev L l j R :=
 ⟨k.nd, fun r hr => by
  rcases k.src r hr with ⟨h1, a, o, h2, h3⟩ | ⟨h1, ⟨a, o, h2, h3⟩, h4⟩
  ·exact .inl ⟨h1, a, o, by omega, h3⟩
  ·exact .inr ⟨h1, ⟨a, o, by omega, h3⟩, h4⟩⟩
theorem KsOk.drop {rev : Nat} {L : List Rec} {l : List Op} {i : Nat} {o : Op} (ho : l[i]? = some o) (hk : (o.kind == .ofNat 2) = true) : ∀ (xs : List KV) (R : List Rec), KsOk rev L l (i + 1) R → (∀ x, x ∈ xs → x.key ∉ R.map (·.kv.key)) → (xs.map (·.key)).Nodup → (∀ x, x ∈ xs → liesB x.key o.key o.fin = true) → KsOk rev L l (i + 1) (dropRs rev R xs)
 | [], R, h, _, _, _ => h
 | x :: xs, R, h, hn, nd, hl => by
  rw [List.map_cons, List.nodup_cons] at nd
  refine KsOk.drop ho hk xs (goneR rev R x) (h.add (r := mkR rev R ⟨x.key, [], 0, 0, 0⟩ true) (Nat.le_refl _) (hn x (by simp)) (.inr ⟨rfl, i, o, by omega, ho, hk, hl x (by simp)⟩)) (fun y hy => ?_) nd.2 (fun y hy => hl y (by simp [hy]))
  unfold goneR
  rw [List.map_append, List.mem_append]
  rintro (q | q)
  ·exact hn y (by simp [hy]) q
  ·simp [mkR] at q
   exact nd.1 (q ▸ List.mem_map.2 ⟨y, hy, rfl⟩)
theorem rise_nd {l : List KV} (h : Rise l) : (l.map (·.key)).Nodup := by
 unfold Rise at h
 rw [List.nodup_iff_pairwise_ne, List.pairwise_map]
 exact h.imp fun {a b} h e => by rw [e] at h; exact absurd h (List.lt_irrefl _)
theorem opsS_ks {rev : Nat} {L : List Rec} {l : List Op} (tw : ¬ Tw l) (hkd : ∀ o, o ∈ l → ∃ kd : Nat, o.kind = Int.ofNat kd ∧ kd < 3) (hs : ∀ i, i ≤ l.length → Short (L ++ (opsS rev L (l.take i)).2)) : ∀ i, i ≤ l.length → KsOk rev L l i (opsS rev L (l.take i)).2
 | 0, _ => by rw [List.take_zero]; exact ⟨List.nodup_nil, fun r hr => by cases hr⟩
 | i + 1, hi => by
  obtain ⟨o, ho⟩ : ∃ o, l[i]? = some o := ⟨_, List.getElem?_eq_getElem (by omega)⟩
  have ih := opsS_ks tw hkd hs i (by omega)
  have hsi := hs i (by omega)
  rw [opsS_s ho]
  unfold opsF
  obtain ⟨R, hR⟩ : ∃ R, R = (opsS rev L (l.take i)).2 := ⟨_, rfl⟩
  rw [← hR] at ih hsi ⊢
  obtain ⟨kd, hkk, h3⟩ := hkd o (List.mem_of_getElem? ho)
  unfold opS
  by_cases q0 : o.kind = 0
  ·rw [if_pos q0]; exact ih.mono (by omega)
  ·rw [if_neg q0]
   by_cases q1 : o.kind = 1
   ·rw [if_pos q1]
    have hk1 : (o.kind == .ofNat 1) = true:= by rw [q1]; rfl
    have key : (putKV rev o (getR o.key (atV (rev + 1) (L ++ R)))).key = o.key:= by cases getR o.key (atV (rev + 1) (L ++ R)) <;> rfl
    refine (ih.mono (Nat.le_succ i)).add (Nat.le_refl _) ?_ (.inl ⟨rfl, i, o, by omega, ho, hk1, key.symm⟩)
    show (putKV rev o (getR o.key (atV (rev + 1) (L ++ R)))).key ∉ _
    rw [key]
    intro hm
    obtain ⟨r, hr, e⟩ := List.mem_map.1 hm
    rcases ih.src r hr with ⟨_, j, p, hj, hp, h1, h2⟩ | ⟨_, ⟨j, p, hj, hp, h1, h2⟩, _⟩
    ·refine tw ⟨j, i, p, o, hp, ho, ?_⟩
     unfold pairB
     rw [h1, hk1, decide_eq_false (by omega), decide_eq_true (by rw [h2, e])]; rfl
    ·refine tw ⟨i, j, o, p, ho, hp, ?_⟩
     unfold pairB
     rw [hk1, h1, ← e, h2]; simp
   ·rw [if_neg q1]
    have hk2 : (o.kind == .ofNat 2) = true := by
     have : kd = 2 := by
      have h0 : kd ≠ 0 := fun e => q0 (by rw [hkk, e]; rfl)
      have h1 : kd ≠ 1 := fun e => q1 (by rw [hkk, e]; rfl)
      omega
     rw [hkk, this]; rfl
    have v := atV_ok (main := rev + 1) hsi
    refine KsOk.drop ho hk2 _ R (ih.mono (Nat.le_succ i)) (fun x hx hm => ?_) (rise_nd (inV_rise v _ _)) (fun x hx => ?_)
    ·obtain ⟨k, hk, hl, rfl⟩ := (inV_mem o.key o.fin x).1 hx
     rw [getKV_key v hk] at hm
     obtain ⟨r, hr, e⟩ := List.mem_map.1 hm
     rcases ih.src r hr with ⟨_, j, p, hj, hp, h1, h2⟩ | ⟨_, _, h4⟩
     ·refine tw ⟨j, i, p, o, hp, ho, ?_⟩
      unfold pairB
      rw [h1, hk2, h2, e, hl]; simp
     ·rw [e] at h4
      have := getR_isSome.2 hk
      rw [h4] at this; cases this
    ·obtain ⟨k, hk, hl, rfl⟩ := (inV_mem o.key o.fin x).1 hx
     rw [getKV_key v hk]; exact hl
end
end Go.Proofs.Ytnedigoajoflaaa.M

namespace Go.Proofs.Ytnedigoajoflaaa.M
open Go Go.AX
noncomputable section
set_option maxRecDepth 100000
def foldS (main : Nat) (L : List Rec) : List KV := inV (atV main L) [] [0]
theorem foldS_len {main : Nat} {L : List Rec} (h : Short L) : (foldS main L).length ≤ L.length := Nat.le_trans (inV_len _ _ _) (atV_len h)
theorem foldC (h0 : H) (bm : Nat) (L : List Rec) (rev comp : Nat) (v : AV) (md : MdAt h0 bm L rev comp v) (nv : ∀ c, blkOf v = some c → c < h0.nx) (main : Nat) (hs : Short L) (hz : L.length ≤ 1000000) :
  PushC P (.enter 13 [.ptr bm 0, .int .u64 (.ofNat main)] h0) fun w h' => Og h0 h' [] ∧ Grows 5 h0.nx h' w (foldS main L).length ((foldS main L).flatMap KV.cs) := by
 refine pushC_of_codeW (fn := Try.f13) (c := bodyC Try.f13) Try.func13 rfl ?_
 show codeW P 13 11 none _ _ _ _ _
 refine codeW_root ?_
 repeat' (first | ((with_reducible refine st1 ?_); (conv => whnf); (with_reducible refine ⟨?_⟩)) | ((with_reducible refine retW_intro rfl ?_); (conv => arg 2; whnf)) | ((with_reducible first | refine iB ?_ ?_ | refine gWt ?_ ?_ | refine gWf ?_ ?_) <;> intro hb <;> (try simp only [hb])) | (simp only [B, F, reduceLT, reduceLeDiff, reduceEqDiff, reduceAdd, reduceMul, reduceSub, ↓reduceIte, eq_self]))
 refine ((atC h0 bm main L v md.lt md.c0 md.sl hz nv).call P).mono P ?_
 rintro _ h1 ⟨ro, rfl, hro, o1, m1⟩
 repeat' (first | ((with_reducible refine st1 ?_); (conv => whnf); (with_reducible refine ⟨?_⟩)) | ((with_reducible refine retW_intro rfl ?_); (conv => arg 2; whnf)) | ((with_reducible first | refine iB ?_ ?_ | refine gWt ?_ ?_ | refine gWf ?_ ?_) <;> intro hb <;> (try simp only [hb])) | (simp only [B, F, reduceLT, reduceLeDiff, reduceEqDiff, reduceAdd, reduceMul, reduceSub, ↓reduceIte, eq_self]))
 have vok := atV_ok (main := main) hs
 refine ((inViewC h1 ro _ [] [0] m1 vok.nd (by have := atV_len (main := main) hs; omega) (fun p hp => (vok.ky p hp).2)).call P).mono P ?_
 rintro w h2 ⟨o2, g2⟩
 have go2 := g2.one
 have x1 := o1.1.1
 repeat' (first | ((with_reducible refine st1 ?_); (conv => whnf); (with_reducible refine ⟨?_⟩)) | ((with_reducible refine retW_intro rfl ?_); (conv => arg 2; whnf)) | ((with_reducible first | refine iB ?_ ?_ | refine gWt ?_ ?_ | refine gWf ?_ ?_) <;> intro hb <;> (try simp only [hb])) | (simp only [B, F, reduceLT, reduceLeDiff, reduceEqDiff, reduceAdd, reduceMul, reduceSub, ↓reduceIte, eq_self, go2]))
 exact ⟨o1.t o2, g2.wk x1⟩
end
end Go.Proofs.Ytnedigoajoflaaa.M

namespace Go.Proofs.Ytnedigoajoflaaa.M
open Go Go.AX
noncomputable section
set_option maxRecDepth 100000
structure Ev where
 main : Nat
 sub : Nat
 tomb : Bool
 kv : KV
 prev : KV
def Ev.cs (x : Ev) : List AV := [.int .u64 (.ofNat x.main), .int .u64 (.ofNat x.sub), .bool x.tomb, .str x.kv.key, .str x.kv.val, .int .u64 (.ofNat x.kv.cre), .int .u64 (.ofNat x.kv.mod), .int .u64 (.ofNat x.kv.ver), .str x.prev.key, .str x.prev.val, .int .u64 (.ofNat x.prev.cre), .int .u64 (.ofNat x.prev.mod), .int .u64 (.ofNat x.prev.ver)]
structure EvS where
 v : View
 main : Nat
 w : List Rec
 out : List Ev
def evNew (s : EvS) (r : Rec) : EvS := if r.main = s.main then s else ⟨s.w.foldl layV s.v, r.main, [], s.out⟩
def evOf (V : View) (r : Rec) : Ev := ⟨r.main, r.sub, r.tomb, r.kv, getKV r.kv.key V⟩
def evAdd (lo : Nat) (key fin : List Nat) (s : EvS) (r : Rec) : EvS := ⟨s.v, s.main, s.w ++ [r], s.out ++ (if lo ≤ s.main ∧ liesB r.kv.key key fin = true then [evOf s.v r] else [])⟩
def evStep (lo : Nat) (key fin : List Nat) (s : EvS) (r : Rec) : EvS := evAdd lo key fin (evNew s r) r
structure EvA (hk : H) (ro b11 b12 b13 b14 : Nat) (R : ALoop) (s : EvS) (h : H) (w wv : AV) : Prop where
 nx : hk.nx + 2 ≤ h.nx
 old : ∀ b, b < hk.nx → b ≠ ro → b ≠ b11 → b ≠ b13 → b ≠ b14 → h.t.get b = hk.t.get b
 lp : h.t.get (hk.nx + 1) = some (.loop R)
 df : h.t.get hk.nx = some (.deferred (some []))
 mp : MapK encS h ro (mR s.v)
 g : h.g = hk.g
 c11 : cellAt h b11 0 = some w
 w11 : wrAt h b11 = true
 c12 : cellAt hk b12 0 = some (.map ro)
 c13 : cellAt h b13 0 = some (.int .u64 (.ofNat s.main))
 w13 : wrAt h b13 = true
 c14 : cellAt h b14 0 = some wv
 w14 : wrAt h b14 = true
 gw : Grows 13 (hk.nx + 2) h w s.out.length (s.out.flatMap Ev.cs)
 gv : Grows 8 (hk.nx + 2) h wv s.w.length (s.w.flatMap Rec.cs)
 dj : ∀ c, blkOf w = some c → blkOf wv ≠ some c
structure EvB (hk : H) (ro b11 b12 b13 b14 : Nat) : Prop where
 lr : ro < hk.nx
 l11 : b11 < hk.nx
 l12 : b12 < hk.nx
 l13 : b13 < hk.nx
 l14 : b14 < hk.nx
 n1 : b11 ≠ ro
 n2 : b12 ≠ ro
 n3 : b13 ≠ ro
 n4 : b14 ≠ ro
 m1 : b12 ≠ b11
 m2 : b13 ≠ b11
 m3 : b14 ≠ b11
 m4 : b13 ≠ b12
 m5 : b14 ≠ b12
 m6 : b14 ≠ b13
section
variable {hk h h' : H} {ro b11 b12 b13 b14 : Nat} {R : ALoop} {s : EvS} {w wv : AV}
theorem EvA.keep (j : EvA hk ro b11 b12 b13 b14 R s h w wv) (k : EvB hk ro b11 b12 b13 b14) (o : Og h h' []) : EvA hk ro b11 b12 b13 b14 R s h' w wv := by
 have e : ∀ b, b < h.nx → h'.t.get b = h.t.get b := fun b hb => o.1.2 b hb (by simp)
 have nx := j.nx
 have l1 := k.l11
 have l3 := k.l13
 have l4 := k.l14
 exact ⟨Nat.le_trans nx o.1.1, fun b hb q1 q2 q3 q4 => by rw [e b (by omega)]; exact j.old b hb q1 q2 q3 q4, by rw [e _ (by omega)]; exact j.lp, by rw [e _ (by omega)]; exact j.df, j.mp.keep o.1 (by simp), o.2.trans j.g, by rw [cellAt_of_get (e _ (by omega))]; exact j.c11, by rw [wrAt_of_get (e _ (by omega))]; exact j.w11, j.c12, by rw [cellAt_of_get (e _ (by omega))]; exact j.c13, by rw [wrAt_of_get (e _ (by omega))]; exact j.w13, by rw [cellAt_of_get (e _ (by omega))]; exact j.c14, by rw [wrAt_of_get (e _ (by omega))]; exact j.w14, j.gw.of_get o.1.1 (fun c q => e c (j.gw.base q).2), j.gv.of_get o.1.1 (fun c q => e c (j.gv.base q).2), j.dj⟩
theorem EvA.p12 (j : EvA hk ro b11 b12 b13 b14 R s h w wv) (k : EvB hk ro b11 b12 b13 b14) : cellAt h b12 0 = some (.map ro) := by
 rw [cellAt_of_get (j.old b12 k.l12 k.n2 k.m1 (fun e => k.m4 e.symm) (fun e => k.m5 e.symm))]; exact j.c12
theorem EvA.out (j : EvA hk ro b11 b12 b13 b14 R s h w wv) (k : EvB hk ro b11 b12 b13 b14) {v7 : AV} {h7 : H} {x : Ev} (g7 : Grows 13 (hk.nx + 2) h7 v7 (s.out.length + 1) (s.out.flatMap Ev.cs ++ x.cs)) (x7 : h7.nx = h.nx + 1) (old7 : ∀ b, b < h.nx → blkOf w ≠ some b → h7.t.get b = h.t.get b) (bl7 : blkOf v7 = some h.nx) (gg7 : h7.g = h.g) :
  EvA hk ro b11 b12 b13 b14 R ⟨s.v, s.main, s.w, s.out ++ [x]⟩ (h7.sts b11 0 [v7]) v7 wv := by
 have nx := j.nx
 have l1 := k.l11
 have l3 := k.l13
 have l4 := k.l14
 have lr := k.lr
 have e7 : ∀ b, b < hk.nx + 2 → h7.t.get b = h.t.get b := fun b hb => old7 b (by omega) (fun q => by have := (j.gw.base q).1; omega)
 have W7 : wrAt h7 b11 = true:= by rw [wrAt_of_get (e7 b11 (by omega))]; exact j.w11
 have e8 : ∀ b, b ≠ b11 → (h7.sts b11 0 [v7]).t.get b = h7.t.get b := fun b hb => get_sts _ _ _ _ hb
 have e78 : ∀ b, b < hk.nx + 2 → b ≠ b11 → (h7.sts b11 0 [v7]).t.get b = h.t.get b := fun b hb hn => by rw [e8 b hn, e7 b hb]
 refine ⟨by rw [nx_sts]; omega, fun b hb q1 q2 q3 q4 => by rw [e78 b (by omega) q2]; exact j.old b hb q1 q2 q3 q4, by rw [e78 _ (by omega) (by omega)]; exact j.lp, by rw [e78 _ (by omega) (by omega)]; exact j.df, j.mp.get (by rw [nx_sts]; omega) (e78 _ (by omega) (fun e => k.n1 e.symm)), by rw [g_sts]; exact gg7.trans j.g, ?_, by rw [wrAt_sts]; exact W7, j.c12, by rw [cellAt_of_get (e78 _ (by omega) k.m2)]; exact j.c13, by rw [wrAt_of_get (e78 _ (by omega) k.m2)]; exact j.w13, by rw [cellAt_of_get (e78 _ (by omega) k.m3)]; exact j.c14, by rw [wrAt_of_get (e78 _ (by omega) k.m3)]; exact j.w14, ?_, ?_, fun c q q2 => by rw [bl7] at q; cases q; have := (j.gv.base q2).2; omega⟩
 ·rw [cellAt_sts W7, if_pos ⟨rfl, Nat.le_refl _, by simp⟩]; rfl
 ·rw [List.length_append, List.flatMap_append, List.flatMap_singleton]
  exact g7.of_get (by rw [nx_sts]; omega) (fun c q => e8 c (by rw [bl7] at q; cases q; omega))
 ·refine j.gv.of_get (by rw [nx_sts]; omega) (fun c q => ?_)
  have := j.gv.base q
  rw [e8 c (by omega), old7 c this.2 (fun q2 => j.dj c q2 q)]
theorem EvA.wait (j : EvA hk ro b11 b12 b13 b14 R s h w wv) (k : EvB hk ro b11 b12 b13 b14) {v7 : AV} {h7 : H} {x : Rec} (g7 : Grows 8 (hk.nx + 2) h7 v7 (s.w.length + 1) (s.w.flatMap Rec.cs ++ x.cs)) (x7 : h7.nx = h.nx + 1) (old7 : ∀ b, b < h.nx → blkOf wv ≠ some b → h7.t.get b = h.t.get b) (bl7 : blkOf v7 = some h.nx) (gg7 : h7.g = h.g) :
  EvA hk ro b11 b12 b13 b14 R ⟨s.v, s.main, s.w ++ [x], s.out⟩ (h7.sts b14 0 [v7]) w v7 := by
 have nx := j.nx
 have l1 := k.l11
 have l3 := k.l13
 have l4 := k.l14
 have lr := k.lr
 have e7 : ∀ b, b < hk.nx + 2 → h7.t.get b = h.t.get b := fun b hb => old7 b (by omega) (fun q => by have := (j.gv.base q).1; omega)
 have W7 : wrAt h7 b14 = true:= by rw [wrAt_of_get (e7 b14 (by omega))]; exact j.w14
 have e8 : ∀ b, b ≠ b14 → (h7.sts b14 0 [v7]).t.get b = h7.t.get b := fun b hb => get_sts _ _ _ _ hb
 have e78 : ∀ b, b < hk.nx + 2 → b ≠ b14 → (h7.sts b14 0 [v7]).t.get b = h.t.get b := fun b hb hn => by rw [e8 b hn, e7 b hb]
 refine ⟨by rw [nx_sts]; omega, fun b hb q1 q2 q3 q4 => by rw [e78 b (by omega) q4]; exact j.old b hb q1 q2 q3 q4, by rw [e78 _ (by omega) (by omega)]; exact j.lp, by rw [e78 _ (by omega) (by omega)]; exact j.df, j.mp.get (by rw [nx_sts]; omega) (e78 _ (by omega) (fun e => k.n4 e.symm)), by rw [g_sts]; exact gg7.trans j.g, by rw [cellAt_of_get (e78 _ (by omega) (fun e => k.m3 e.symm))]; exact j.c11, by rw [wrAt_of_get (e78 _ (by omega) (fun e => k.m3 e.symm))]; exact j.w11, j.c12, by rw [cellAt_of_get (e78 _ (by omega) (fun e => k.m6 e.symm))]; exact j.c13, by rw [wrAt_of_get (e78 _ (by omega) (fun e => k.m6 e.symm))]; exact j.w13, ?_, by rw [wrAt_sts]; exact W7, ?_, ?_, fun c q q2 => by rw [bl7] at q2; cases q2; have := (j.gw.base q).2; omega⟩
 ·rw [cellAt_sts W7, if_pos ⟨rfl, Nat.le_refl _, by simp⟩]; rfl
 ·refine j.gw.of_get (by rw [nx_sts]; omega) (fun c q => ?_)
  have := j.gw.base q
  rw [e8 c (by omega), old7 c this.2 (fun q2 => j.dj c q q2)]
 ·rw [List.length_append, List.flatMap_append, List.flatMap_singleton]
  exact g7.of_get (by rw [nx_sts]; omega) (fun c q => e8 c (by rw [bl7] at q; cases q; omega))
end
end
end Go.Proofs.Ytnedigoajoflaaa.M

namespace Go.Proofs.Ytnedigoajoflaaa.M
open Go Go.AX
noncomputable section
set_option maxRecDepth 100000
structure EvG (hk : H) (ro b11 b13 b14 b6 b8 b9 : Nat) (lo : Nat) (key fin : List Nat) : Prop where
 c6 : cellAt hk b6 0 = some (.int .u64 (.ofNat lo))
 c8 : cellAt hk b8 0 = some (.str key)
 c9 : cellAt hk b9 0 = some (.str fin)
 l6 : b6 < hk.nx ∧ b6 ≠ ro ∧ b6 ≠ b11 ∧ b6 ≠ b13 ∧ b6 ≠ b14
 l8 : b8 < hk.nx ∧ b8 ≠ ro ∧ b8 ≠ b11 ∧ b8 ≠ b13 ∧ b8 ≠ b14
 l9 : b9 < hk.nx ∧ b9 ≠ ro ∧ b9 ≠ b11 ∧ b9 ≠ b13 ∧ b9 ≠ b14
section
variable {hk h h' : H} {ro b11 b12 b13 b14 b6 b8 b9 : Nat} {R : ALoop} {s : EvS} {w wv : AV} {lo : Nat} {key fin : List Nat}
theorem EvA.asks (j : EvA hk ro b11 b12 b13 b14 R s h w wv) (g : EvG hk ro b11 b13 b14 b6 b8 b9 lo key fin) : cellAt h b6 0 = some (.int .u64 (.ofNat lo)) ∧ cellAt h b8 0 = some (.str key) ∧ cellAt h b9 0 = some (.str fin) :=
 ⟨by rw [cellAt_of_get (j.old b6 g.l6.1 g.l6.2.1 g.l6.2.2.1 g.l6.2.2.2.1 g.l6.2.2.2.2)]; exact g.c6, by rw [cellAt_of_get (j.old b8 g.l8.1 g.l8.2.1 g.l8.2.2.1 g.l8.2.2.2.1 g.l8.2.2.2.2)]; exact g.c8, by rw [cellAt_of_get (j.old b9 g.l9.1 g.l9.2.1 g.l9.2.2.1 g.l9.2.2.2.1 g.l9.2.2.2.2)]; exact g.c9⟩
structure EvT (tm : T AV) (b6 b8 b9 b11 b12 b13 b14 b15 : Nat) : Prop where
 t6 : tm.get 6 = some (.ptr b6 0)
 t8 : tm.get 8 = some (.ptr b8 0)
 t9 : tm.get 9 = some (.ptr b9 0)
 t11 : tm.get 11 = some (.ptr b11 0)
 t12 : tm.get 12 = some (.ptr b12 0)
 t13 : tm.get 13 = some (.ptr b13 0)
 t14 : tm.get 14 = some (.ptr b14 0)
 t15 : tm.get 15 = some (.ptr b15 0)
theorem evWait (l : Nat) (k : EvB hk ro b11 b12 b13 b14) (j : EvA hk ro b11 b12 b13 b14 R s h w wv) (hz : s.w.length ≤ 1000000) (x : Rec) (b15 : Nat) (Y : CellsAt h b15 0 x.cs) (l15 : b15 < h.nx) (tm : T AV) (t : EvT tm b6 b8 b9 b11 b12 b13 b14 b15) (K : KQ)
  (hK : ∀ tm' h' wv', EvA hk ro b11 b12 b13 b14 R ⟨s.v, s.main, s.w ++ [x], s.out⟩ h' w wv' → K .norm [] tm' h') : codeW P 16 75 (some l) (codeI (bodyC Try.f16) [1, 1, 0, 1, 0, 1, 0, 1, 1, 1, 1, 1]) [] tm h K := by
 obtain ⟨t6, t8, t9, t11, t12, t13, t14, t15⟩ := t
 have c14 := j.c14
 have gvo := j.gv.one
 have nx := j.nx
 obtain ⟨y0, y1, y2, y3, y4, y5, y6, y7⟩ := CellsAt.u8 (show CellsAt h b15 0 [.int .u64 (.ofNat x.main), .int .u64 (.ofNat x.sub), .str x.kv.key, .str x.kv.val, .int .u64 (.ofNat x.kv.cre), .int .u64 (.ofNat x.kv.mod), .int .u64 (.ofNat x.kv.ver), .bool x.tomb] from Y)
 obtain ⟨h3, h3e⟩ : ∃ h3, h3 = h.newCells 94 [.int .u64 (.ofNat x.main), .int .u64 (.ofNat x.sub), .str x.kv.key, .str x.kv.val, .int .u64 (.ofNat x.kv.cre), .int .u64 (.ofNat x.kv.mod), .int .u64 (.ofNat x.kv.ver), .bool x.tomb] := ⟨_, rfl⟩
 have o3 : Og h h3 []:= by rw [h3e]; exact (Og.refl _ _).new _ _
 have x3 : h3.nx = h.nx + 1:= by rw [h3e]; rfl
 have hrow : h3.row h.nx 0 8 = some x.cs := row_ok (o := 0) (cs := x.cs) (fun j hj => by rw [h3e, cellAt_new, Nat.zero_add, if_pos rfl]; rfl) (by simp [Rec.cs])
 have j3 := j.keep k o3
 repeat' (first | ((with_reducible refine st1 ?_); (conv => whnf); (with_reducible refine ⟨?_⟩)) | ((with_reducible refine retW_intro rfl ?_); (conv => arg 2; whnf)) | ((with_reducible first | refine iB ?_ ?_ | refine gWt ?_ ?_ | refine gWf ?_ ?_) <;> intro hb <;> (try simp only [hb])) | (simp only [B, xB, F, reduceLT, reduceLeDiff, reduceEqDiff, reduceAdd, reduceMul, reduceSub, ↓reduceIte, eq_self, t14, t15, c14, gvo, y0, y1, y2, y3, y4, y5, y6, y7, ← h3e, hrow]))
 refine exW_growsG (m := 1) (new := x.cs) j3.gv (by omega) (by omega) (by omega) rfl (by omega) (fun v7 h7 g7 x7 old7 bl7 gg7 => ?_)
 have g7o := g7.one
 have g7c := g7.cells
 have a14 : h7.t.get b14 = h3.t.get b14 := old7 b14 (by have := k.l14; omega) (fun q => by have := (j3.gv.base q).1; have := k.l14; omega)
 have e14 : cellAt h7 b14 0 = some wv:= by rw [cellAt_of_get a14]; exact j3.c14
 have f14 : wrAt h7 b14 = true:= by rw [wrAt_of_get a14]; exact j3.w14
 obtain ⟨h8, h8e⟩ : ∃ h8, h8 = h7.sts b14 0 [v7] := ⟨_, rfl⟩
 repeat' (first | ((with_reducible refine st1 ?_); (conv => whnf); (with_reducible refine ⟨?_⟩)) | ((with_reducible refine retW_intro rfl ?_); (conv => arg 2; whnf)) | ((with_reducible first | refine iB ?_ ?_ | refine gWt ?_ ?_ | refine gWf ?_ ?_) <;> intro hb <;> (try simp only [hb])) | (simp only [B, xB, F, reduceLT, reduceLeDiff, reduceEqDiff, reduceAdd, reduceMul, reduceSub, ↓reduceIte, eq_self, t14, g7o, g7c, e14, f14, ← h8e]))
 refine hK _ _ v7 ?_
 rw [h8e]
 exact j3.wait k g7 x7 old7 bl7 gg7
theorem evOf_cs (V : View) (x : Rec) (r : Rec) (h : getKV x.kv.key V = r.kv) : (evOf V x).cs = [.int .u64 (.ofNat x.main), .int .u64 (.ofNat x.sub), .bool x.tomb, .str x.kv.key, .str x.kv.val, .int .u64 (.ofNat x.kv.cre), .int .u64 (.ofNat x.kv.mod), .int .u64 (.ofNat x.kv.ver), .str r.kv.key, .str r.kv.val, .int .u64 (.ofNat r.kv.cre), .int .u64 (.ofNat r.kv.mod), .int .u64 (.ofNat r.kv.ver)] := by
 unfold evOf; rw [h]; rfl
set_option maxHeartbeats 4000000 in
theorem evTail (l : Nat) (k : EvB hk ro b11 b12 b13 b14) (q : EvG hk ro b11 b13 b14 b6 b8 b9 lo key fin) (j : EvA hk ro b11 b12 b13 b14 R s h w wv) (hz : s.w.length ≤ 1000000) (hzo : s.out.length ≤ 1000000) (x : Rec) (b15 : Nat) (Y : CellsAt h b15 0 x.cs) (l15 : b15 < h.nx) (g15 : hk.nx + 2 ≤ b15) (nb : blkOf w ≠ some b15) (tm : T AV) (t : EvT tm b6 b8 b9 b11 b12 b13 b14 b15) (K : KQ)
  (hK : ∀ tm' h' w' wv', EvA hk ro b11 b12 b13 b14 R (evAdd lo key fin s x) h' w' wv' → K .norm [] tm' h') : codeW P 16 75 (some l) (codeI (bodyC Try.f16) [1, 0, 1, 0, 1, 0, 1, 1, 1, 1, 1]) [] tm h K := by
 obtain ⟨t6, t8, t9, t11, t12, t13, t14, t15⟩ := t
 have c13 := j.c13
 obtain ⟨q6, q8, q9⟩ := j.asks q
 obtain ⟨y0, y1, y2, y3, y4, y5, y6, y7⟩ := CellsAt.u8 (show CellsAt h b15 0 [.int .u64 (.ofNat x.main), .int .u64 (.ofNat x.sub), .str x.kv.key, .str x.kv.val, .int .u64 (.ofNat x.kv.cre), .int .u64 (.ofNat x.kv.mod), .int .u64 (.ofNat x.kv.ver), .bool x.tomb] from Y)
 by_cases p : lo ≤ s.main
 ·have d : decide (lo ≤ s.main) = true := decide_eq_true p
  repeat' (first | ((with_reducible refine st1 ?_); (conv => whnf); (with_reducible refine ⟨?_⟩)) | ((with_reducible refine retW_intro rfl ?_); (conv => arg 2; whnf)) | ((with_reducible first | refine iB ?_ ?_ | refine gWt ?_ ?_ | refine gWf ?_ ?_) <;> intro hb <;> (try simp only [hb])) | (simp only [B, xB, F, reduceLT, reduceLeDiff, reduceEqDiff, reduceAdd, reduceMul, reduceSub, ↓reduceIte, eq_self, t6, t8, t9, t13, t15, c13, q6, q8, q9, y0, y1, y2, y3, y4, y5, y6, y7, d]))
  refine ((liesC h x.kv.key key fin).call P).mono P ?_
  rintro _ h2 ⟨rfl, o2⟩
  have x2 := o2.1.1
  have j2 := j.keep k o2
  have Y2 := gC Y o2 l15 (by simp)
  cases e : liesB x.kv.key key fin with
  | false =>
   have es : evAdd lo key fin s x = ⟨s.v, s.main, s.w ++ [x], s.out⟩:= by unfold evAdd; rw [e, if_neg (by simp), List.append_nil]
   repeat' (first | (with_reducible refine stopC [1, 1, 0, 1, 0, 1, 0, 1, 1, 1, 1, 1] ?_) | ((with_reducible refine st1 ?_); (conv => whnf); (with_reducible refine ⟨?_⟩)) | ((with_reducible refine retW_intro rfl ?_); (conv => arg 2; whnf)) | ((with_reducible first | refine iB ?_ ?_ | refine gWt ?_ ?_ | refine gWf ?_ ?_) <;> intro hb <;> (try simp only [hb])) | (simp only [B, xB, F, reduceLT, reduceLeDiff, reduceEqDiff, reduceAdd, reduceMul, reduceSub, ↓reduceIte, eq_self, e]))
   exact ⟨evWait (b6 := b6) (b8 := b8) (b9 := b9) l k j2 hz x b15 Y2 (by omega) _ ⟨by simp only [B, xB, F, reduceLT, reduceLeDiff, reduceEqDiff, reduceAdd, reduceMul, reduceSub, ↓reduceIte, eq_self, t6], by simp only [B, xB, F, reduceLT, reduceLeDiff, reduceEqDiff, reduceAdd, reduceMul, reduceSub, ↓reduceIte, eq_self, t8], by simp only [B, xB, F, reduceLT, reduceLeDiff, reduceEqDiff, reduceAdd, reduceMul, reduceSub, ↓reduceIte, eq_self, t9], by simp only [B, xB, F, reduceLT, reduceLeDiff, reduceEqDiff, reduceAdd, reduceMul, reduceSub, ↓reduceIte, eq_self, t11], by simp only [B, xB, F, reduceLT, reduceLeDiff, reduceEqDiff, reduceAdd, reduceMul, reduceSub, ↓reduceIte, eq_self, t12], by simp only [B, xB, F, reduceLT, reduceLeDiff, reduceEqDiff, reduceAdd, reduceMul, reduceSub, ↓reduceIte, eq_self, t13], by simp only [B, xB, F, reduceLT, reduceLeDiff, reduceEqDiff, reduceAdd, reduceMul, reduceSub, ↓reduceIte, eq_self, t14], by simp only [B, xB, F, reduceLT, reduceLeDiff, reduceEqDiff, reduceAdd, reduceMul, reduceSub, ↓reduceIte, eq_self, t15]⟩ K (fun tm' h' wv' j' => hK tm' h' w wv' (by rw [es]; exact j'))⟩
  | true =>
   have es : evAdd lo key fin s x = ⟨s.v, s.main, s.w ++ [x], s.out ++ [evOf s.v x]⟩:= by unfold evAdd; rw [if_pos ⟨p, e⟩]
   have c11 := j2.c11
   have gwo := j2.gw.one
   have p12 := j2.p12 k
   obtain ⟨r, hr⟩ : ∃ r, r = (getR x.kv.key s.v).getD rec0 := ⟨_, rfl⟩
   have hkv : getKV x.kv.key s.v = r.kv:= by rw [getKV_eq, hr]
   have lk := (look_mR j2.mp x.kv.key).1
   rw [← hr] at lk
   unfold Rec.cs at lk
   obtain ⟨z0, z1, z2, z3, z4, z5, z6, z7⟩ := CellsAt.u8 (show CellsAt h2 b15 0 [.int .u64 (.ofNat x.main), .int .u64 (.ofNat x.sub), .str x.kv.key, .str x.kv.val, .int .u64 (.ofNat x.kv.cre), .int .u64 (.ofNat x.kv.mod), .int .u64 (.ofNat x.kv.ver), .bool x.tomb] from Y2)
   obtain ⟨h3, h3e⟩ : ∃ h3, h3 = h2.newCells 61 (evOf s.v x).cs := ⟨_, rfl⟩
   have o3 : Og h2 h3 []:= by rw [h3e]; exact (Og.refl _ _).new _ _
   have x3 : h3.nx = h2.nx + 1:= by rw [h3e]; rfl
   have hrow : h3.row h2.nx 0 13 = some (evOf s.v x).cs := row_ok (o := 0) (cs := (evOf s.v x).cs) (fun j hj => by rw [h3e, cellAt_new, Nat.zero_add, if_pos rfl]) (by simp [Ev.cs])
   have j3 := j2.keep k o3
   have Y3 := gC Y2 o3 (by omega) (by simp)
   rw [evOf_cs _ _ r hkv] at h3e
   repeat' (first | ((with_reducible refine st1 ?_); (conv => whnf); (with_reducible refine ⟨?_⟩)) | ((with_reducible refine retW_intro rfl ?_); (conv => arg 2; whnf)) | ((with_reducible first | refine iB ?_ ?_ | refine gWt ?_ ?_ | refine gWf ?_ ?_) <;> intro hb <;> (try simp only [hb])) | (simp only [B, xB, F, reduceLT, reduceLeDiff, reduceEqDiff, reduceAdd, reduceMul, reduceSub, ↓reduceIte, eq_self, e, t11, t12, t15, c11, gwo, p12, @ex_lookup, lk, z0, z1, z2, z3, z4, z5, z6, z7, ← h3e, hrow]))
   refine exW_growsG (m := 1) (new := (evOf s.v x).cs) j3.gw (by omega) (by omega) (by omega) rfl (by omega) (fun v7 h7 g7 x7 old7 bl7 gg7 => ?_)
   have g7o := g7.one
   have g7c := g7.cells
   have a11 : h7.t.get b11 = h3.t.get b11 := old7 b11 (by have := k.l11; omega) (fun q => by have := (j3.gw.base q).1; have := k.l11; omega)
   have e11 : cellAt h7 b11 0 = some w:= by rw [cellAt_of_get a11]; exact j3.c11
   have f11 : wrAt h7 b11 = true:= by rw [wrAt_of_get a11]; exact j3.w11
   obtain ⟨h8, h8e⟩ : ∃ h8, h8 = h7.sts b11 0 [v7] := ⟨_, rfl⟩
   have j8 := j3.out k (x := evOf s.v x) g7 x7 old7 bl7 gg7
   rw [← h8e] at j8
   have x8 : h8.nx = h7.nx:= by rw [h8e, nx_sts]
   have Y8 : CellsAt h8 b15 0 x.cs := Y3.of_get (by rw [h8e, get_sts _ _ _ _ (by have := k.l11; omega), old7 b15 (by omega) nb])
   repeat' (first | (with_reducible refine stopC [1, 1, 0, 1, 0, 1, 0, 1, 1, 1, 1, 1] ?_) | ((with_reducible refine st1 ?_); (conv => whnf); (with_reducible refine ⟨?_⟩)) | ((with_reducible refine retW_intro rfl ?_); (conv => arg 2; whnf)) | ((with_reducible first | refine iB ?_ ?_ | refine gWt ?_ ?_ | refine gWf ?_ ?_) <;> intro hb <;> (try simp only [hb])) | (simp only [B, xB, F, reduceLT, reduceLeDiff, reduceEqDiff, reduceAdd, reduceMul, reduceSub, ↓reduceIte, eq_self, t11, g7o, g7c, e11, f11, ← h8e]))
   exact ⟨evWait (b6 := b6) (b8 := b8) (b9 := b9) l k j8 hz x b15 Y8 (by omega) _ ⟨by simp only [B, xB, F, reduceLT, reduceLeDiff, reduceEqDiff, reduceAdd, reduceMul, reduceSub, ↓reduceIte, eq_self, t6], by simp only [B, xB, F, reduceLT, reduceLeDiff, reduceEqDiff, reduceAdd, reduceMul, reduceSub, ↓reduceIte, eq_self, t8], by simp only [B, xB, F, reduceLT, reduceLeDiff, reduceEqDiff, reduceAdd, reduceMul, reduceSub, ↓reduceIte, eq_self, t9], by simp only [B, xB, F, reduceLT, reduceLeDiff, reduceEqDiff, reduceAdd, reduceMul, reduceSub, ↓reduceIte, eq_self, t11], by simp only [B, xB, F, reduceLT, reduceLeDiff, reduceEqDiff, reduceAdd, reduceMul, reduceSub, ↓reduceIte, eq_self, t12], by simp only [B, xB, F, reduceLT, reduceLeDiff, reduceEqDiff, reduceAdd, reduceMul, reduceSub, ↓reduceIte, eq_self, t13], by simp only [B, xB, F, reduceLT, reduceLeDiff, reduceEqDiff, reduceAdd, reduceMul, reduceSub, ↓reduceIte, eq_self, t14], by simp only [B, xB, F, reduceLT, reduceLeDiff, reduceEqDiff, reduceAdd, reduceMul, reduceSub, ↓reduceIte, eq_self, t15]⟩ K (fun tm' h' wv' j' => hK tm' h' v7 wv' (by rw [es]; exact j'))⟩
 ·have d : decide (lo ≤ s.main) = false := decide_eq_false p
  have es : evAdd lo key fin s x = ⟨s.v, s.main, s.w ++ [x], s.out⟩:= by unfold evAdd; rw [if_neg (fun e => p e.1), List.append_nil]
  repeat' (first | (with_reducible refine stopC [1, 1, 0, 1, 0, 1, 0, 1, 1, 1, 1, 1] ?_) | ((with_reducible refine st1 ?_); (conv => whnf); (with_reducible refine ⟨?_⟩)) | ((with_reducible refine retW_intro rfl ?_); (conv => arg 2; whnf)) | ((with_reducible first | refine iB ?_ ?_ | refine gWt ?_ ?_ | refine gWf ?_ ?_) <;> intro hb <;> (try simp only [hb])) | (simp only [B, xB, F, reduceLT, reduceLeDiff, reduceEqDiff, reduceAdd, reduceMul, reduceSub, ↓reduceIte, eq_self, t6, t13, c13, q6, d]))
  exact ⟨evWait (b6 := b6) (b8 := b8) (b9 := b9) l k j hz x b15 Y l15 _ ⟨by simp only [B, xB, F, reduceLT, reduceLeDiff, reduceEqDiff, reduceAdd, reduceMul, reduceSub, ↓reduceIte, eq_self, t6], by simp only [B, xB, F, reduceLT, reduceLeDiff, reduceEqDiff, reduceAdd, reduceMul, reduceSub, ↓reduceIte, eq_self, t8], by simp only [B, xB, F, reduceLT, reduceLeDiff, reduceEqDiff, reduceAdd, reduceMul, reduceSub, ↓reduceIte, eq_self, t9], by simp only [B, xB, F, reduceLT, reduceLeDiff, reduceEqDiff, reduceAdd, reduceMul, reduceSub, ↓reduceIte, eq_self, t11], by simp only [B, xB, F, reduceLT, reduceLeDiff, reduceEqDiff, reduceAdd, reduceMul, reduceSub, ↓reduceIte, eq_self, t12], by simp only [B, xB, F, reduceLT, reduceLeDiff, reduceEqDiff, reduceAdd, reduceMul, reduceSub, ↓reduceIte, eq_self, t13], by simp only [B, xB, F, reduceLT, reduceLeDiff, reduceEqDiff, reduceAdd, reduceMul, reduceSub, ↓reduceIte, eq_self, t14], by simp only [B, xB, F, reduceLT, reduceLeDiff, reduceEqDiff, reduceAdd, reduceMul, reduceSub, ↓reduceIte, eq_self, t15]⟩ K (fun tm' h' wv' j' => hK tm' h' w wv' (by rw [es]; exact j'))⟩
end
end
end Go.Proofs.Ytnedigoajoflaaa.M

namespace Go.Proofs.Ytnedigoajoflaaa.M
open Go Go.AX
noncomputable section
set_option maxRecDepth 100000
section
variable {hk h h' : H} {ro b11 b12 b13 b14 b6 b8 b9 : Nat} {R R' : ALoop} {s : EvS} {w wv : AV} {lo : Nat} {key fin : List Nat}
theorem EvA.put (j : EvA hk ro b11 b12 b13 b14 R s h w wv) (k : EvB hk ro b11 b12 b13 b14) (o : Og h h' [ro]) {V : View} (m : MapK encS h' ro (mR V)) : EvA hk ro b11 b12 b13 b14 R ⟨V, s.main, s.w, s.out⟩ h' w wv := by
 have e : ∀ b, b < h.nx → b ≠ ro → h'.t.get b = h.t.get b := fun b hb hn => o.1.2 b hb (by simp [hn])
 have nx := j.nx
 have l1 := k.l11
 have l3 := k.l13
 have l4 := k.l14
 have lr := k.lr
 have n1 := k.n1
 have n3 := k.n3
 have n4 := k.n4
 exact ⟨Nat.le_trans nx o.1.1, fun b hb q1 q2 q3 q4 => by rw [e b (by omega) q1]; exact j.old b hb q1 q2 q3 q4, by rw [e _ (by omega) (by omega)]; exact j.lp, by rw [e _ (by omega) (by omega)]; exact j.df, m, o.2.trans j.g, by rw [cellAt_of_get (e _ (by omega) n1)]; exact j.c11, by rw [wrAt_of_get (e _ (by omega) n1)]; exact j.w11, j.c12, by rw [cellAt_of_get (e _ (by omega) n3)]; exact j.c13, by rw [wrAt_of_get (e _ (by omega) n3)]; exact j.w13, by rw [cellAt_of_get (e _ (by omega) n4)]; exact j.c14, by rw [wrAt_of_get (e _ (by omega) n4)]; exact j.w14, j.gw.of_get o.1.1 (fun c q => e c (j.gw.base q).2 (by have := (j.gw.base q).1; omega)), j.gv.of_get o.1.1 (fun c q => e c (j.gv.base q).2 (by have := (j.gv.base q).1; omega)), j.dj⟩
theorem EvA.state (j : EvA hk ro b11 b12 b13 b14 R s h w wv) (k : EvB hk ro b11 b12 b13 b14) : EvA hk ro b11 b12 b13 b14 R' s (h.obj (hk.nx + 1) (.loop R')) w wv := by
 have e : ∀ b, b ≠ hk.nx + 1 → (h.obj (hk.nx + 1) (.loop R')).t.get b = h.t.get b := fun b hb => get_obj_ne hb _
 have nx := j.nx
 have l1 := k.l11
 have l3 := k.l13
 have l4 := k.l14
 have lr := k.lr
 exact ⟨nx, fun b hb q1 q2 q3 q4 => by rw [e b (by omega)]; exact j.old b hb q1 q2 q3 q4, get_obj_self _ _, by rw [e _ (by omega)]; exact j.df, j.mp.get (Nat.le_refl _) (e _ (by omega)), j.g, by rw [cellAt_of_get (e _ (by omega))]; exact j.c11, by rw [wrAt_of_get (e _ (by omega))]; exact j.w11, j.c12, by rw [cellAt_of_get (e _ (by omega))]; exact j.c13, by rw [wrAt_of_get (e _ (by omega))]; exact j.w13, by rw [cellAt_of_get (e _ (by omega))]; exact j.c14, by rw [wrAt_of_get (e _ (by omega))]; exact j.w14, j.gw.of_get (Nat.le_refl _) (fun c q => e c (by have := (j.gw.base q).1; omega)), j.gv.of_get (Nat.le_refl _) (fun c q => e c (by have := (j.gv.base q).1; omega)), j.dj⟩
theorem EvA.turn (j : EvA hk ro b11 b12 b13 b14 R s h w wv) (k : EvB hk ro b11 b12 b13 b14) (m : Nat) : EvA hk ro b11 b12 b13 b14 R ⟨s.v, m, [], s.out⟩ ((h.sts b14 0 [.nilslice]).sts b13 0 [.int .u64 (.ofNat m)]) w .nilslice := by
 have e : ∀ b, b ≠ b14 → b ≠ b13 → ((h.sts b14 0 [.nilslice]).sts b13 0 [.int .u64 (.ofNat m)]).t.get b = h.t.get b := fun b h1 h2 => by rw [get_sts _ _ _ _ h2, get_sts _ _ _ _ h1]
 have nx := j.nx
 have l1 := k.l11
 have l3 := k.l13
 have l4 := k.l14
 have lr := k.lr
 have n3 := k.n3
 have n4 := k.n4
 have m2 := k.m2
 have m3 := k.m3
 have m6 := k.m6
 have xx : ((h.sts b14 0 [.nilslice]).sts b13 0 [.int .u64 (.ofNat m)]).nx = h.nx:= by rw [nx_sts, nx_sts]
 have w13 : wrAt (h.sts b14 0 [.nilslice]) b13 = true:= by rw [wrAt_sts]; exact j.w13
 refine ⟨by rw [xx]; exact nx, fun b hb q1 q2 q3 q4 => by rw [e b q4 q3]; exact j.old b hb q1 q2 q3 q4, by rw [e _ (by omega) (by omega)]; exact j.lp, by rw [e _ (by omega) (by omega)]; exact j.df, j.mp.get (by rw [xx]; exact Nat.le_refl _) (e _ (by omega) (by omega)), by rw [g_sts, g_sts]; exact j.g, by rw [cellAt_of_get (e _ (by omega) (by omega))]; exact j.c11, by rw [wrAt_of_get (e _ (by omega) (by omega))]; exact j.w11, j.c12, ?_, by rw [wrAt_sts]; exact w13, ?_, by rw [wrAt_sts, wrAt_sts]; exact j.w14, j.gw.of_get (by rw [xx]; exact Nat.le_refl _) (fun c q => e c (by have := (j.gw.base q).1; omega) (by have := (j.gw.base q).1; omega)), .none, fun c _ q2 => by cases q2⟩
 ·rw [cellAt_sts w13, if_pos ⟨rfl, Nat.le_refl _, by simp⟩]; rfl
 ·rw [cellAt_of_get (get_sts _ _ _ _ m6), cellAt_sts j.w14, if_pos ⟨rfl, Nat.le_refl _, by simp⟩]; rfl
noncomputable abbrev loop16 (hk : H) (tm : T AV) : ALoop := loopR 16 75 tm [24] (codeI (bodyC Try.f16) [0, 0, 1, 0, 1, 1, 1, 1, 1]) (codeI (bodyC Try.f16) [1, 0, 1, 0, 1, 1, 1, 1, 1]) hk.nx .ready
structure WtI (hk : H) (ro b11 b12 b13 b14 b6 b8 b9 : Nat) (R : ALoop) (s : EvS) (w wv : AV) (x : Rec) (b15 : Nat) (m : Nat) (ds : List Nat) (tm : T AV) (h : H) (i : Nat) : Prop where
 ds : ds = []
 nn : m = s.w.length - i
 ii : i ≤ s.w.length
 t : EvT tm b6 b8 b9 b11 b12 b13 b14 b15
 t30 : tm.get 30 = some wv
 t31 : tm.get 31 = some (.int .i64 (.ofNat s.w.length))
 t32 : tm.get 32 = some (.int .i64 (.ofNat i))
 j : EvA hk ro b11 b12 b13 b14 R ⟨(s.w.take i).foldl layV s.v, s.main, s.w, s.out⟩ h w wv
 y : CellsAt h b15 0 x.cs
 l : b15 < h.nx
set_option maxHeartbeats 4000000 in
theorem round16 (k : EvB hk ro b11 b12 b13 b14) (q : EvG hk ro b11 b13 b14 b6 b8 b9 lo key fin) (tm : T AV) (u6 : tm.get 6 = some (.ptr b6 0)) (u8 : tm.get 8 = some (.ptr b8 0)) (u9 : tm.get 9 = some (.ptr b9 0)) (u11 : tm.get 11 = some (.ptr b11 0)) (u12 : tm.get 12 = some (.ptr b12 0)) (u13 : tm.get 13 = some (.ptr b13 0)) (u14 : tm.get 14 = some (.ptr b14 0))
  (hj : EvA hk ro b11 b12 b13 b14 (loop16 hk tm) s h w wv) (hz : s.w.length ≤ 1000000) (hzo : s.out.length ≤ 1000000) (x : Rec) :
  PushC P (.round (hk.nx + 1) [.agg x.cs] h) fun v h' => v = .bool true ∧ ∃ w' wv', EvA hk ro b11 b12 b13 b14 (loop16 hk tm) (evStep lo key fin s x) h' w' wv' := by
 refine round_walk (tm := tm.set 24 (some (.agg x.cs))) hj.lp rfl ?_
 show codeW P 16 75 (some (hk.nx + 1)) (codeI (bodyC Try.f16) [0, 0, 1, 0, 1, 1, 1, 1, 1]) _ _ _ _
 obtain ⟨h1, h1e, o1, x1, y0, y1, y2, y3, y4, y5, y6, y7, -⟩ := recBox h x
 have j1 := hj.keep k o1
 have xk := hj.nx
 have Y1 : CellsAt h1 h.nx 0 x.cs := CellsAt.m8 y0 y1 y2 y3 y4 y5 y6 y7
 unfold Rec.cs
 repeat' (first | ((with_reducible refine st1 ?_); (conv => whnf); (with_reducible refine ⟨?_⟩)) | ((with_reducible refine retW_intro rfl ?_); (conv => arg 2; whnf)) | ((with_reducible first | refine iB ?_ ?_ | refine gWt ?_ ?_ | refine gWf ?_ ?_) <;> intro hb <;> (try simp only [hb])) | (simp only [B, xB, F, reduceLT, reduceLeDiff, reduceEqDiff, reduceAdd, reduceMul, reduceSub, ↓reduceIte, eq_self, h1e]))
 refine asg_norm j1.lp rfl ?_
 show codeW P 16 75 (some (hk.nx + 1)) (codeI (bodyC Try.f16) [1, 0, 1, 0, 1, 1, 1, 1, 1]) _ _ _ _
 have j2 : EvA hk ro b11 b12 b13 b14 { loop16 hk tm with state := .busy } s (h1.obj (hk.nx + 1) (.loop { loop16 hk tm with state := .busy })) w wv := j1.state k
 obtain ⟨h2, e2⟩ : ∃ h2, h2 = h1.obj (hk.nx + 1) (.loop { loop16 hk tm with state := .busy }) := ⟨_, rfl⟩
 rw [← e2] at j2
 have x2 : h2.nx = h1.nx:= by rw [e2]; rfl
 have Y2 : CellsAt h2 h.nx 0 x.cs := Y1.of_get (by rw [e2]; exact get_obj_ne (by omega) _)
 have nbw : blkOf w ≠ some h.nx := fun e => by have := (hj.gw.base e).2; omega
 have nbv : blkOf wv ≠ some h.nx := fun e => by have := (hj.gv.base e).2; omega
 obtain ⟨z0, z1, z2, z3, z4, z5, z6, z7⟩ := CellsAt.u8 (show CellsAt h2 h.nx 0 [.int .u64 (.ofNat x.main), .int .u64 (.ofNat x.sub), .str x.kv.key, .str x.kv.val, .int .u64 (.ofNat x.kv.cre), .int .u64 (.ofNat x.kv.mod), .int .u64 (.ofNat x.kv.ver), .bool x.tomb] from Y2)
 rw [← e2]
 have c13 := j2.c13
 have c14 := j2.c14
 by_cases p : x.main = s.main
 ·have es : evNew s x = s := if_pos p
  have p' : (x.main = s.main) = True := eq_true p
  repeat' (first | (with_reducible refine stopC [1, 0, 1, 0, 1, 0, 1, 1, 1, 1, 1] ?_) | ((with_reducible refine st1 ?_); (conv => whnf); (with_reducible refine ⟨?_⟩)) | ((with_reducible refine retW_intro rfl ?_); (conv => arg 2; whnf)) | ((with_reducible first | refine iB ?_ ?_ | refine gWt ?_ ?_ | refine gWf ?_ ?_) <;> intro hb <;> (try simp only [hb])) | (simp only [B, xB, F, reduceLT, reduceLeDiff, reduceEqDiff, reduceAdd, reduceMul, reduceSub, ↓reduceIte, eq_self, u6, u8, u9, u11, u12, u13, u14, z0, c13, p']))
  refine ⟨evTail (hk.nx + 1) k q j2 hz hzo x h.nx Y2 (by omega) (by omega) nbw _ ⟨by simp only [B, xB, F, reduceLT, reduceLeDiff, reduceEqDiff, reduceAdd, reduceMul, reduceSub, ↓reduceIte, eq_self, u6], by simp only [B, xB, F, reduceLT, reduceLeDiff, reduceEqDiff, reduceAdd, reduceMul, reduceSub, ↓reduceIte, eq_self, u8], by simp only [B, xB, F, reduceLT, reduceLeDiff, reduceEqDiff, reduceAdd, reduceMul, reduceSub, ↓reduceIte, eq_self, u9], by simp only [B, xB, F, reduceLT, reduceLeDiff, reduceEqDiff, reduceAdd, reduceMul, reduceSub, ↓reduceIte, eq_self, u11], by simp only [B, xB, F, reduceLT, reduceLeDiff, reduceEqDiff, reduceAdd, reduceMul, reduceSub, ↓reduceIte, eq_self, u12], by simp only [B, xB, F, reduceLT, reduceLeDiff, reduceEqDiff, reduceAdd, reduceMul, reduceSub, ↓reduceIte, eq_self, u13], by simp only [B, xB, F, reduceLT, reduceLeDiff, reduceEqDiff, reduceAdd, reduceMul, reduceSub, ↓reduceIte, eq_self, u14], by simp only [B, xB, F, reduceLT, reduceLeDiff, reduceEqDiff, reduceAdd, reduceMul, reduceSub, ↓reduceIte, eq_self]⟩ _ (fun tm' h' w' wv' j' => ?_)⟩
  rw [blkK_norm]
  exact roundEnd_norm (r := loop16 hk tm) j'.lp rfl rfl ⟨rfl, w', wv', by unfold evStep; rw [es]; exact j'.state k⟩
 ·have es : evNew s x = ⟨s.w.foldl layV s.v, x.main, [], s.out⟩ := if_neg p
  have p' : (x.main = s.main) = False := eq_false p
  have hlen := j2.gv.slice.len (P := P) u45a
  have wvo := j2.gv.one
  repeat' (first | ((with_reducible refine st1 ?_); (conv => whnf); (with_reducible refine ⟨?_⟩)) | ((with_reducible refine retW_intro rfl ?_); (conv => arg 2; whnf)) | ((with_reducible first | refine iB ?_ ?_ | refine gWt ?_ ?_ | refine gWf ?_ ?_) <;> intro hb <;> (try simp only [hb])) | (simp only [B, xB, F, reduceLT, reduceLeDiff, reduceEqDiff, reduceAdd, reduceMul, reduceSub, ↓reduceIte, eq_self, u6, u8, u9, u11, u12, u13, u14, z0, c13, p', c14, hlen, wvo]))
  refine st_loop (fun m ds tm' h' => ∃ i, WtI hk ro b11 b12 b13 b14 b6 b8 b9 { loop16 hk tm with state := .busy } s w wv x h.nx m ds tm' h' i) s.w.length rfl ⟨0, rfl, rfl, Nat.zero_le _, ⟨by simp only [B, xB, F, reduceLT, reduceLeDiff, reduceEqDiff, reduceAdd, reduceMul, reduceSub, ↓reduceIte, eq_self, u6], by simp only [B, xB, F, reduceLT, reduceLeDiff, reduceEqDiff, reduceAdd, reduceMul, reduceSub, ↓reduceIte, eq_self, u8], by simp only [B, xB, F, reduceLT, reduceLeDiff, reduceEqDiff, reduceAdd, reduceMul, reduceSub, ↓reduceIte, eq_self, u9], by simp only [B, xB, F, reduceLT, reduceLeDiff, reduceEqDiff, reduceAdd, reduceMul, reduceSub, ↓reduceIte, eq_self, u11], by simp only [B, xB, F, reduceLT, reduceLeDiff, reduceEqDiff, reduceAdd, reduceMul, reduceSub, ↓reduceIte, eq_self, u12], by simp only [B, xB, F, reduceLT, reduceLeDiff, reduceEqDiff, reduceAdd, reduceMul, reduceSub, ↓reduceIte, eq_self, u13], by simp only [B, xB, F, reduceLT, reduceLeDiff, reduceEqDiff, reduceAdd, reduceMul, reduceSub, ↓reduceIte, eq_self, u14], by simp only [B, xB, F, reduceLT, reduceLeDiff, reduceEqDiff, reduceAdd, reduceMul, reduceSub, ↓reduceIte, eq_self]⟩, by simp only [B, xB, F, reduceLT, reduceLeDiff, reduceEqDiff, reduceAdd, reduceMul, reduceSub, ↓reduceIte, eq_self], by simp only [B, xB, F, reduceLT, reduceLeDiff, reduceEqDiff, reduceAdd, reduceMul, reduceSub, ↓reduceIte, eq_self], by simp only [B, xB, F, reduceLT, reduceLeDiff, reduceEqDiff, reduceAdd, reduceMul, reduceSub, ↓reduceIte, eq_self], j2, Y2, by omega⟩ (fun m ds tm' h' hI => ?_)
  obtain ⟨i, rfl, rfl, ii, ⟨t6, t8, t9, t11, t12, t13, t14, t15⟩, t30, t31, t32, jj, yy, ll⟩ := hI
  by_cases hi : i < s.w.length
  ·have di : decide (i < s.w.length) = true := decide_eq_true hi
   have lt1 : (i < s.w.length) = True:= by simp [hi]
   obtain ⟨r, hr⟩ : ∃ r, s.w[i]? = some r := ⟨_, List.getElem?_eq_getElem hi⟩
   have slv := jj.gv.slice
   obtain ⟨bv, ov, cv, rfl, hbv, -⟩ := slv.place (by show 0 < s.w.length; omega)
   obtain ⟨q0, q1, q2, q3, q4, q5, q6, q7⟩ := Rec.at slv hr
   obtain ⟨h3, h3e, o3, x3, a0, a1, a2, a3, a4, a5, a6, a7, -⟩ := recBox h' r
   have j3 := jj.keep k o3
   have p12 := j3.p12 k
   have w1 : wrapF .i64 (Int.ofNat i + Int.ofNat 1) = Int.ofNat (i + 1) := i64_add (by omega)
   repeat' (first | ((with_reducible refine st1 ?_); (conv => whnf); (with_reducible refine ⟨?_⟩)) | ((with_reducible refine retW_intro rfl ?_); (conv => arg 2; whnf)) | ((with_reducible first | refine iB ?_ ?_ | refine gWt ?_ ?_ | refine gWf ?_ ?_) <;> intro hb <;> (try simp only [hb])) | (simp only [B, xB, F, reduceLT, reduceLeDiff, reduceEqDiff, reduceAdd, reduceMul, reduceSub, ↓reduceIte, eq_self, t12, t30, t31, t32, di, lt1, q0, q1, q2, q3, q4, q5, q6, q7, h3e, a0, a1, a2, a3, a4, a5, a6, a7, p12]))
   refine ((layC h3 ro _ r j3.mp).call P).mono P ?_
   rintro _ h4 ⟨rfl, m4, o4⟩
   have x4 := o4.1.1
   have j4 := j3.put k o4 m4
   have lr := k.lr
   have y4 := gC (gC yy o3 ll (by simp)) o4 (by omega) (by simp; omega)
   repeat' (first | ((with_reducible refine st1 ?_); (conv => whnf); (with_reducible refine ⟨?_⟩)) | ((with_reducible refine retW_intro rfl ?_); (conv => arg 2; whnf)) | ((with_reducible first | refine iB ?_ ?_ | refine gWt ?_ ?_ | refine gWf ?_ ?_) <;> intro hb <;> (try simp only [hb])) | (simp only [B, xB, F, reduceLT, reduceLeDiff, reduceEqDiff, reduceAdd, reduceMul, reduceSub, ↓reduceIte, eq_self, t32, w1]))
   refine ⟨s.w.length - (i + 1), by omega, i + 1, rfl, rfl, by omega, ⟨by simp only [B, xB, F, reduceLT, reduceLeDiff, reduceEqDiff, reduceAdd, reduceMul, reduceSub, ↓reduceIte, eq_self, t6], by simp only [B, xB, F, reduceLT, reduceLeDiff, reduceEqDiff, reduceAdd, reduceMul, reduceSub, ↓reduceIte, eq_self, t8], by simp only [B, xB, F, reduceLT, reduceLeDiff, reduceEqDiff, reduceAdd, reduceMul, reduceSub, ↓reduceIte, eq_self, t9], by simp only [B, xB, F, reduceLT, reduceLeDiff, reduceEqDiff, reduceAdd, reduceMul, reduceSub, ↓reduceIte, eq_self, t11], by simp only [B, xB, F, reduceLT, reduceLeDiff, reduceEqDiff, reduceAdd, reduceMul, reduceSub, ↓reduceIte, eq_self, t12], by simp only [B, xB, F, reduceLT, reduceLeDiff, reduceEqDiff, reduceAdd, reduceMul, reduceSub, ↓reduceIte, eq_self, t13], by simp only [B, xB, F, reduceLT, reduceLeDiff, reduceEqDiff, reduceAdd, reduceMul, reduceSub, ↓reduceIte, eq_self, t14], by simp only [B, xB, F, reduceLT, reduceLeDiff, reduceEqDiff, reduceAdd, reduceMul, reduceSub, ↓reduceIte, eq_self, t15]⟩, by simp only [B, xB, F, reduceLT, reduceLeDiff, reduceEqDiff, reduceAdd, reduceMul, reduceSub, ↓reduceIte, eq_self, t30], by simp only [B, xB, F, reduceLT, reduceLeDiff, reduceEqDiff, reduceAdd, reduceMul, reduceSub, ↓reduceIte, eq_self, t31], by simp only [B, xB, F, reduceLT, reduceLeDiff, reduceEqDiff, reduceAdd, reduceMul, reduceSub, ↓reduceIte, eq_self], ?_, y4, by omega⟩
   rw [List.take_add_one, hr, List.foldl_append]
   exact j4
  ·have di : decide (i < s.w.length) = false := decide_eq_false hi
   obtain rfl : i = s.w.length:= by omega
   rw [List.take_length] at jj
   have C13 := jj.c13
   have C14 := jj.c14
   have W13 := jj.w13
   have W14 := jj.w14
   obtain ⟨g0, g1, g2, g3, g4, g5, g6, g7⟩ := CellsAt.u8 (show CellsAt h' h.nx 0 [.int .u64 (.ofNat x.main), .int .u64 (.ofNat x.sub), .str x.kv.key, .str x.kv.val, .int .u64 (.ofNat x.kv.cre), .int .u64 (.ofNat x.kv.mod), .int .u64 (.ofNat x.kv.ver), .bool x.tomb] from yy)
   have l13 := k.l13
   have l14 := k.l14
   obtain ⟨h3, h3e⟩ : ∃ h3, h3 = h'.sts b14 0 [.nilslice] := ⟨_, rfl⟩
   have y3 : CellsAt h3 h.nx 0 x.cs := yy.of_get (by rw [h3e]; exact get_sts _ _ _ _ (by omega))
   obtain ⟨f0, f1, f2, f3, f4, f5, f6, f7⟩ := CellsAt.u8 (show CellsAt h3 h.nx 0 [.int .u64 (.ofNat x.main), .int .u64 (.ofNat x.sub), .str x.kv.key, .str x.kv.val, .int .u64 (.ofNat x.kv.cre), .int .u64 (.ofNat x.kv.mod), .int .u64 (.ofNat x.kv.ver), .bool x.tomb] from y3)
   have D13 : cellAt h3 b13 0 = some (.int .u64 (.ofNat s.main)):= by rw [h3e, cellAt_of_get (get_sts _ _ _ _ (fun e => k.m6 e.symm))]; exact C13
   have V13 : wrAt h3 b13 = true:= by rw [h3e, wrAt_sts]; exact W13
   obtain ⟨h4, h4e⟩ : ∃ h4, h4 = h3.sts b13 0 [.int .u64 (.ofNat x.main)] := ⟨_, rfl⟩
   have y4 : CellsAt h4 h.nx 0 x.cs := y3.of_get (by rw [h4e]; exact get_sts _ _ _ _ (by omega))
   obtain ⟨e0, e1, e2, e3, e4, e5, e6, e7⟩ := CellsAt.u8 (show CellsAt h4 h.nx 0 [.int .u64 (.ofNat x.main), .int .u64 (.ofNat x.sub), .str x.kv.key, .str x.kv.val, .int .u64 (.ofNat x.kv.cre), .int .u64 (.ofNat x.kv.mod), .int .u64 (.ofNat x.kv.ver), .bool x.tomb] from y4)
   have j4 := jj.turn k x.main
   rw [← h3e, ← h4e] at j4
   have x4 : h4.nx = h'.nx:= by rw [h4e, h3e, nx_sts, nx_sts]
   repeat' (first | (with_reducible refine stopC [1, 0, 1, 0, 1, 0, 1, 1, 1, 1, 1] ?_) | ((with_reducible refine st1 ?_); (conv => whnf); (with_reducible refine ⟨?_⟩)) | ((with_reducible refine st_dw ?_ rfl rfl ?_ ?_); exact rfl; kernel_rfl; (conv => arg 5; whnf); (conv => arg 3; whnf)) | ((with_reducible refine retW_intro rfl ?_); (conv => arg 2; whnf)) | ((with_reducible first | refine iB ?_ ?_ | refine gWt ?_ ?_ | refine gWf ?_ ?_ | refine gXt ?_ ?_ | refine gXf ?_ ?_) <;> intro hb <;> (try simp only [hb])) | ((with_reducible show drawI _ _ _ _ _ _ _ _ _); first | ((with_reducible refine kI_rd ?_ ?_); exact rfl) | ((with_reducible apply kI_rg); exact rfl; exact rfl) | ((with_reducible refine kI_cv ?_ ?_ ?_); exact rfl; kernel_rfl) | ((with_reducible apply kI_al); exact rfl; exact rfl) | ((with_reducible refine kI_ex ?_ ?_ ?_ ?_ ?_); exact rfl; kernel_rfl; exact rfl) | ((with_reducible apply kI_eg); exact rfl; kernel_rfl; exact rfl) | ((with_reducible refine kI_nl ?_ ?_))) | ((with_reducible show eOk _ _ _ _ _ _); first | (exact eok_nil) | (refine ke_rd ?_ ?_ ?_; exact rfl) | (apply ke_rg; exact rfl; exact rfl) | (refine ke_cv ?_ ?_ ?_ ?_; exact rfl; kernel_rfl) | (apply ke_fl; exact rfl) | (apply ke_al; exact rfl; exact rfl)) | ((with_reducible refine freshIs_new ?_); kernel_rfl) | (simp only [B, xB, F, reduceLT, reduceLeDiff, reduceEqDiff, reduceAdd, reduceMul, reduceSub, ↓reduceIte, eq_self, t13, t14, t15, t31, t32, di, g0, C13, C14, W14, ← h3e, f0, D13, V13, ← h4e, e0]))
   refine ⟨evTail (hk.nx + 1) k q j4 (Nat.zero_le _) hzo x h.nx y4 (by omega) (by omega) nbw _ ⟨by simp only [B, xB, F, reduceLT, reduceLeDiff, reduceEqDiff, reduceAdd, reduceMul, reduceSub, ↓reduceIte, eq_self, t6], by simp only [B, xB, F, reduceLT, reduceLeDiff, reduceEqDiff, reduceAdd, reduceMul, reduceSub, ↓reduceIte, eq_self, t8], by simp only [B, xB, F, reduceLT, reduceLeDiff, reduceEqDiff, reduceAdd, reduceMul, reduceSub, ↓reduceIte, eq_self, t9], by simp only [B, xB, F, reduceLT, reduceLeDiff, reduceEqDiff, reduceAdd, reduceMul, reduceSub, ↓reduceIte, eq_self, t11], by simp only [B, xB, F, reduceLT, reduceLeDiff, reduceEqDiff, reduceAdd, reduceMul, reduceSub, ↓reduceIte, eq_self, t12], by simp only [B, xB, F, reduceLT, reduceLeDiff, reduceEqDiff, reduceAdd, reduceMul, reduceSub, ↓reduceIte, eq_self, t13], by simp only [B, xB, F, reduceLT, reduceLeDiff, reduceEqDiff, reduceAdd, reduceMul, reduceSub, ↓reduceIte, eq_self, t14], by simp only [B, xB, F, reduceLT, reduceLeDiff, reduceEqDiff, reduceAdd, reduceMul, reduceSub, ↓reduceIte, eq_self, t15]⟩ _ (fun tm' h' w' wv' j' => ?_)⟩
   rw [blkK_norm]
   exact roundEnd_norm (r := loop16 hk tm) j'.lp rfl rfl ⟨rfl, w', wv', by unfold evStep; rw [es]; exact j'.state k⟩
end
end
end Go.Proofs.Ytnedigoajoflaaa.M

namespace Go.Proofs.Ytnedigoajoflaaa.M
open Go Go.AX
noncomputable section
set_option maxRecDepth 100000
def evF (lo to : Nat) (key fin : List Nat) (L : List Rec) : EvS := L.foldl (fun s r => if r.main ≤ to then evStep lo key fin s r else s) ⟨[], 0, [], []⟩
theorem evF_s {lo to : Nat} {key fin : List Nat} {L : List Rec} {i : Nat} {r : Rec} (h : L[i]? = some r) : evF lo to key fin (L.take (i + 1)) = if r.main ≤ to then evStep lo key fin (evF lo to key fin (L.take i)) r else evF lo to key fin (L.take i) := by
 unfold evF
 rw [List.take_add_one, h, List.foldl_append]; rfl
theorem evStep_len (lo : Nat) (key fin : List Nat) (s : EvS) (r : Rec) : (evStep lo key fin s r).w.length ≤ s.w.length + 1 ∧ (evStep lo key fin s r).out.length ≤ s.out.length + 1 := by
 unfold evStep evAdd evNew
 split <;> refine ⟨by simp, ?_⟩ <;> (rw [List.length_append]; split <;> simp)
theorem evFold_len (lo to : Nat) (key fin : List Nat) : ∀ (L : List Rec) (s : EvS), (L.foldl (fun s r => if r.main ≤ to then evStep lo key fin s r else s) s).w.length ≤ s.w.length + L.length ∧ (L.foldl (fun s r => if r.main ≤ to then evStep lo key fin s r else s) s).out.length ≤ s.out.length + L.length
 | [], s => ⟨Nat.le_refl _, Nat.le_refl _⟩
 | r :: L, s => by
  rw [List.foldl_cons, List.length_cons]
  split
  ·have ih := evFold_len lo to key fin L (evStep lo key fin s r)
   have := evStep_len lo key fin s r
   omega
  ·have ih := evFold_len lo to key fin L s
   omega
theorem evF_len (lo to : Nat) (key fin : List Nat) (L : List Rec) : (evF lo to key fin L).w.length ≤ L.length ∧ (evF lo to key fin L).out.length ≤ L.length := by
 have := evFold_len lo to key fin L ⟨[], 0, [], []⟩
 simpa [evF] using this
set_option maxHeartbeats 4000000 in
theorem loop16C (hk : H) (ro b11 b12 b13 b14 b6 b8 b9 b1 b2 bm : Nat) (k : EvB hk ro b11 b12 b13 b14) (lo to : Nat) (key fin : List Nat) (q : EvG hk ro b11 b13 b14 b6 b8 b9 lo key fin) (v : AV) (L : List Rec) (hz : L.length ≤ 1000000) (ds : List Nat) (tm : T AV) (K : KQ) (t23 : tm.get 23 = some (.func 56 [] [.ptr b1 0, .ptr b2 0]))
  (u6 : tm.get 6 = some (.ptr b6 0)) (u8 : tm.get 8 = some (.ptr b8 0)) (u9 : tm.get 9 = some (.ptr b9 0)) (u11 : tm.get 11 = some (.ptr b11 0)) (u12 : tm.get 12 = some (.ptr b12 0)) (u13 : tm.get 13 = some (.ptr b13 0)) (u14 : tm.get 14 = some (.ptr b14 0))
  (c11 : cellAt hk b11 0 = some .nilslice) (w11 : wrAt hk b11 = true) (c12 : cellAt hk b12 0 = some (.map ro)) (c13 : cellAt hk b13 0 = some (.int .u64 (.ofNat 0))) (w13 : wrAt hk b13 = true) (c14 : cellAt hk b14 0 = some .nilslice) (w14 : wrAt hk b14 = true)
  (mp : MapK encS hk ro []) (k1 : cellAt hk b1 0 = some (.ptr bm 0)) (k2 : cellAt hk b2 0 = some (.int .u64 (.ofNat to))) (km : cellAt hk bm 0 = some v) (sl : SliceAt hk v L.length (L.flatMap Rec.cs)) (hb1 : b1 < hk.nx) (hb2 : b2 < hk.nx) (hbm : bm < hk.nx) (n2 : b2 ≠ ro ∧ b2 ≠ b11 ∧ b2 ≠ b13 ∧ b2 ≠ b14) (nv : ∀ c, blkOf v = some c → c ≠ ro ∧ c ≠ b11 ∧ c ≠ b13 ∧ c ≠ b14)
  (hK : ∀ h2 w wv, EvA hk ro b11 b12 b13 b14 { loop16 hk tm with state := .exhausted } (evF lo to key fin L) h2 w wv → K .norm (hk.nx :: ds) tm h2) :
  codeW P 16 75 none (codeI (bodyC Try.f16) [0, 1, 0, 1, 1, 1, 1, 1]) ds tm hk K := by
 have lr := k.lr
 have l11 := k.l11
 have l13 := k.l13
 have l14 := k.l14
 refine st_rf rfl (f := .tmp 23) (ps := #[24]) rfl rfl ?_
 refine rf_walk (g := 56) (cap := [.ptr b1 0, .ptr b2 0]) (by rw [evalA_tmp, t23]; rfl) (fun args h => callV_func 56 (by kernel_rfl) [] _ args) ?_
 have hbase : ∀ b, b < hk.nx → (loopH hk 16 75 tm [24] (codeI (bodyC Try.f16) [0, 0, 1, 0, 1, 1, 1, 1, 1]) (codeI (bodyC Try.f16) [1, 0, 1, 0, 1, 1, 1, 1, 1])).t.get b = hk.t.get b := fun b hb => by rw [loopH_get, if_neg (by omega), if_neg (by omega)]
 have hJ0 : EvA hk ro b11 b12 b13 b14 (loop16 hk tm) ⟨[], 0, [], []⟩ (loopH hk 16 75 tm [24] (codeI (bodyC Try.f16) [0, 0, 1, 0, 1, 1, 1, 1, 1]) (codeI (bodyC Try.f16) [1, 0, 1, 0, 1, 1, 1, 1, 1])) .nilslice .nilslice :=
  ⟨by rw [loopH_nx]; omega, fun b hb _ _ _ _ => hbase b hb, by rw [loopH_get, if_pos rfl], by rw [loopH_get, if_neg (by omega), if_pos rfl], mp.get (by rw [loopH_nx]; omega) (hbase _ lr), rfl, by rw [cellAt_of_get (hbase _ l11)]; exact c11, by rw [wrAt_of_get (hbase _ l11)]; exact w11, c12, by rw [cellAt_of_get (hbase _ l13)]; exact c13, by rw [wrAt_of_get (hbase _ l13)]; exact w13, by rw [cellAt_of_get (hbase _ l14)]; exact c14, by rw [wrAt_of_get (hbase _ l14)]; exact w14, .none, .none, fun c e => by cases e⟩
 have hsl : ∀ h', (∀ b, b < hk.nx → b ≠ ro → b ≠ b11 → b ≠ b13 → b ≠ b14 → h'.t.get b = hk.t.get b) → hk.nx ≤ h'.nx → SliceAt h' v L.length (L.flatMap Rec.cs) := fun h' old hx => sl.move hx (fun c e => by obtain ⟨q1, q2, q3, q4⟩ := nv c e; exact old c (sl_lt sl c e) q1 q2 q3 q4)
 refine (upToRun _ (hk.nx + 1) b1 b2 bm to v L hz (fun i h => ∃ w wv, EvA hk ro b11 b12 b13 b14 (loop16 hk tm) (evF lo to key fin (L.take i)) h w wv) (by rw [cellAt_of_get (hbase _ hb1)]; exact k1) (by rw [cellAt_of_get (hbase _ hbm)]; exact km) (hsl _ (fun b hb _ _ _ _ => hbase b hb) (by rw [loopH_nx]; omega)) (fun i h h' ⟨w, wv, j⟩ o => ⟨w, wv, j.keep k o⟩)
  (fun i h ⟨w, wv, j⟩ => ⟨by rw [cellAt_of_get (j.old _ hb2 n2.1 n2.2.1 n2.2.2.1 n2.2.2.2)]; exact k2, hsl _ j.old (by have := j.nx; omega), by have := j.nx; omega⟩) (fun i h x ⟨w, wv, j⟩ hx p => by
   rw [evF_s hx, if_pos p]
   have hl := evF_len lo to key fin (L.take i)
   rw [List.length_take] at hl
   exact round16 k q tm u6 u8 u9 u11 u12 u13 u14 j (by omega) (by omega) x)
  (fun i h x ⟨w, wv, j⟩ hx p => by rw [evF_s hx, if_neg p]; exact ⟨w, wv, j⟩) ⟨_, _, hJ0⟩).mono P ?_
 rintro _ h2 ⟨w, wv, j⟩
 rw [List.take_length] at j
 refine ⟨j.lp, ?_⟩
 exact hK _ w wv (j.state (R' := { loop16 hk tm with state := .exhausted }) k)
end
end Go.Proofs.Ytnedigoajoflaaa.M

namespace Go.Proofs.Ytnedigoajoflaaa.M
open Go Go.AX
noncomputable section
set_option maxRecDepth 100000
set_option maxHeartbeats 4000000 in
theorem eventsC (h0 : H) (bm : Nat) (L : List Rec) (rev comp : Nat) (v : AV) (md : MdAt h0 bm L rev comp v) (nv : ∀ c, blkOf v = some c → c < h0.nx) (lo to : Nat) (key fin : List Nat) (hz : L.length ≤ 1000000) :
  PushC P (.enter 16 [.ptr bm 0, .int .u64 (.ofNat lo), .int .u64 (.ofNat to), .str key, .str fin] h0) fun w h' => Og h0 h' [] ∧ Grows 13 h0.nx h' w (evF lo to key fin L).out.length ((evF lo to key fin L).out.flatMap Ev.cs) := by
 obtain ⟨h1, h1e⟩ : ∃ h1, h1 = h0.newCells 27 [.int .u64 (.ofNat lo)] := ⟨_, rfl⟩
 obtain ⟨h2, h2e⟩ : ∃ h2, h2 = h1.newCells 9 [.str key] := ⟨_, rfl⟩
 obtain ⟨h3, h3e⟩ : ∃ h3, h3 = h2.newCells 9 [.str fin] := ⟨_, rfl⟩
 obtain ⟨h4, h4e⟩ : ∃ h4, h4 = h3.newCells 56 [.nilslice] := ⟨_, rfl⟩
 obtain ⟨h5, h5e⟩ : ∃ h5, h5 = h4.alloc (.map [] 0) := ⟨_, rfl⟩
 have x1 : h1.nx = h0.nx + 1:= by rw [h1e]; rfl
 have x2 : h2.nx = h1.nx + 1:= by rw [h2e]; rfl
 have x3 : h3.nx = h2.nx + 1:= by rw [h3e]; rfl
 have x4 : h4.nx = h3.nx + 1:= by rw [h4e]; rfl
 have x5 : h5.nx = h4.nx + 1:= by rw [h5e]; rfl
 have o1 : Og h0 h1 []:= by rw [h1e]; exact (Og.refl _ _).new _ _
 have o2 : Og h1 h2 []:= by rw [h2e]; exact (Og.refl _ _).new _ _
 have o3 : Og h2 h3 []:= by rw [h3e]; exact (Og.refl _ _).new _ _
 have o4 : Og h3 h4 []:= by rw [h4e]; exact (Og.refl _ _).new _ _
 have o5 : Og h4 h5 []:= by rw [h5e]; exact (Og.refl _ _).alloc _
 obtain ⟨ha, hae⟩ : ∃ ha, ha = h5.newCells 85 [.nilmap] := ⟨_, rfl⟩
 obtain ⟨hb, hbe⟩ : ∃ hb, hb = ha.newCells 27 [.int .u64 (.ofNat 0)] := ⟨_, rfl⟩
 obtain ⟨hc, hce⟩ : ∃ hc, hc = hb.sts h5.nx 0 [.map h4.nx] := ⟨_, rfl⟩
 obtain ⟨h6, h6e⟩ : ∃ h6, h6 = hc.sts ha.nx 0 [.int .u64 (.ofNat 0)] := ⟨_, rfl⟩
 obtain ⟨h7, h7e⟩ : ∃ h7, h7 = h6.newCells 45 [.nilslice] := ⟨_, rfl⟩
 have xa : ha.nx = h5.nx + 1:= by rw [hae]; rfl
 have xb : hb.nx = ha.nx + 1:= by rw [hbe]; rfl
 have xc : hc.nx = hb.nx:= by rw [hce, nx_sts]
 have x6 : h6.nx = hc.nx:= by rw [h6e, nx_sts]
 have x7 : h7.nx = h6.nx + 1:= by rw [h7e]; rfl
 have oa : Og h5 ha []:= by rw [hae]; exact (Og.refl _ _).new _ _
 have ob : Og ha hb []:= by rw [hbe]; exact (Og.refl _ _).new _ _
 have o5b := oa.t ob
 have o56 : Og h5 h6 []:= by rw [h6e, hce]; exact (o5b.sts (.inr (Nat.le_refl _))).sts (.inr (by omega))
 have o7 : Og h6 h7 []:= by rw [h7e]; exact (Og.refl _ _).new _ _
 have o57 := o56.t o7
 have o47 := o5.t o57
 have o37 := o4.t o47
 have o27 := o3.t o37
 have o17 := o2.t o27
 have o07 := o1.t o17
 have c6 : cellAt h7 h0.nx 0 = some (.int .u64 (.ofNat lo)) := kc (h := h1) (by rw [h1e, cellAt_new, if_pos rfl]; rfl) o17 (by omega) (by simp)
 have c8 : cellAt h7 h1.nx 0 = some (.str key) := kc (h := h2) (by rw [h2e, cellAt_new, if_pos rfl]; rfl) o27 (by omega) (by simp)
 have c9 : cellAt h7 h2.nx 0 = some (.str fin) := kc (h := h3) (by rw [h3e, cellAt_new, if_pos rfl]; rfl) o37 (by omega) (by simp)
 have c11 : cellAt h7 h3.nx 0 = some .nilslice := kc (h := h4) (by rw [h4e, cellAt_new, if_pos rfl]; rfl) o47 (by omega) (by simp)
 have w11 : wrAt h7 h3.nx = true := kw (h := h4) (by rw [h4e]; exact wr_new _ _ _) o47 (by omega) (by simp)
 have wa : wrAt hb h5.nx = true := kw (h := ha) (by rw [hae]; exact wr_new _ _ _) ob (by omega) (by simp)
 have wb : wrAt hc ha.nx = true:= by rw [hce, wrAt_sts, hbe]; exact wr_new _ _ _
 have d12 : cellAt h6 h5.nx 0 = some (.map h4.nx):= by rw [h6e, cellAt_of_get (get_sts _ _ _ _ (by omega)), hce, cellAt_sts wa, if_pos ⟨rfl, Nat.le_refl _, by simp⟩]; rfl
 have d13 : cellAt h6 ha.nx 0 = some (.int .u64 (.ofNat 0)):= by rw [h6e, cellAt_sts wb, if_pos ⟨rfl, Nat.le_refl _, by simp⟩]; rfl
 have v13 : wrAt h6 ha.nx = true:= by rw [h6e, wrAt_sts]; exact wb
 have c12 := kc d12 o7 (by omega) (by simp)
 have c13 := kc d13 o7 (by omega) (by simp)
 have w13 := kw v13 o7 (by omega) (by simp)
 have c14 : cellAt h7 h6.nx 0 = some .nilslice:= by rw [h7e, cellAt_new, if_pos rfl]; rfl
 have w14 : wrAt h7 h6.nx = true:= by rw [h7e]; exact wr_new _ _ _
 have m5 : MapK encS h5 h4.nx []:= by rw [h5e]; exact newMap h4 encS
 have f12 : cellAt hb h5.nx 0 = some .nilmap := kc (h := ha) (by rw [hae, cellAt_new, if_pos rfl]; rfl) ob (by omega) (by simp)
 have f13 : cellAt hc ha.nx 0 = some (.int .u64 (.ofNat 0)):= by rw [hce, cellAt_of_get (get_sts _ _ _ _ (by omega)), hbe, cellAt_new, if_pos rfl]; rfl
 refine pushC_of_codeW (fn := Try.f16) (c := bodyC Try.f16) Try.func16 rfl ?_
 show codeW P 16 75 none _ _ _ _ _
 refine codeW_root ?_
 repeat' (first | ((with_reducible refine st1 ?_); (conv => whnf); (with_reducible refine ⟨?_⟩)) | ((with_reducible refine retW_intro rfl ?_); (conv => arg 2; whnf)) | ((with_reducible first | refine iB ?_ ?_ | refine gWt ?_ ?_ | refine gWf ?_ ?_) <;> intro hb <;> (try simp only [hb])) | (simp only [B, xB, F, reduceLT, reduceLeDiff, reduceEqDiff, reduceAdd, reduceMul, reduceSub, ↓reduceIte, eq_self, ← h1e, ← h2e, ← h3e, mk85, ← h4e, ← h5e, ← hae, ← hbe, f12, wa, ← hce, f13, wb, ← h6e, ← h7e]))
 refine ((upToC h7 bm to).call P).mono P ?_
 rintro _ h8 ⟨rfl, h8e⟩
 have o8 : Og h7 h8 []:= by rw [h8e]; exact ((Og.refl _ _).new _ _).new _ _
 have x8 : h8.nx = h7.nx + 2:= by rw [h8e, nx_new, nx_new]
 have q1 : cellAt h8 h7.nx 0 = some (.ptr bm 0):= by rw [h8e, cellAt_new, if_neg (by rw [nx_new]; omega), cellAt_new, if_pos rfl]; rfl
 have q2 : cellAt h8 (h7.nx + 1) 0 = some (.int .u64 (.ofNat to)):= by rw [h8e, cellAt_new, if_pos (by rw [nx_new])]; rfl
 have o08 := o07.t o8
 have lbm := md.lt
 have kB : EvB h8 h4.nx h3.nx h5.nx ha.nx h6.nx := ⟨by omega, by omega, by omega, by omega, by omega, by omega, by omega, by omega, by omega, by omega, by omega, by omega, by omega, by omega, by omega⟩
 have qG : EvG h8 h4.nx h3.nx ha.nx h6.nx h0.nx h1.nx h2.nx lo key fin := ⟨kc c6 o8 (by omega) (by simp), kc c8 o8 (by omega) (by simp), kc c9 o8 (by omega) (by simp), by omega, by omega, by omega⟩
 repeat' (first | ((with_reducible refine st1 ?_); (conv => whnf); (with_reducible refine ⟨?_⟩)) | ((with_reducible refine retW_intro rfl ?_); (conv => arg 2; whnf)) | ((with_reducible first | refine iB ?_ ?_ | refine gWt ?_ ?_ | refine gWf ?_ ?_) <;> intro hb <;> (try simp only [hb])) | (simp only [B, xB, F, reduceLT, reduceLeDiff, reduceEqDiff, reduceAdd, reduceMul, reduceSub, ↓reduceIte, eq_self]))
 refine loop16C h8 h4.nx h3.nx h5.nx ha.nx h6.nx h0.nx h1.nx h2.nx h7.nx (h7.nx + 1) bm kB lo to key fin qG v L hz [] _ _ (by simp only [B, xB, F, reduceLT, reduceLeDiff, reduceEqDiff, reduceAdd, reduceMul, reduceSub, ↓reduceIte, eq_self]) (by simp only [B, xB, F, reduceLT, reduceLeDiff, reduceEqDiff, reduceAdd, reduceMul, reduceSub, ↓reduceIte, eq_self]) (by simp only [B, xB, F, reduceLT, reduceLeDiff, reduceEqDiff, reduceAdd, reduceMul, reduceSub, ↓reduceIte, eq_self]) (by simp only [B, xB, F, reduceLT, reduceLeDiff, reduceEqDiff, reduceAdd, reduceMul, reduceSub, ↓reduceIte, eq_self]) (by simp only [B, xB, F, reduceLT, reduceLeDiff, reduceEqDiff, reduceAdd, reduceMul, reduceSub, ↓reduceIte, eq_self]) (by simp only [B, xB, F, reduceLT, reduceLeDiff, reduceEqDiff, reduceAdd, reduceMul, reduceSub, ↓reduceIte, eq_self]) (by simp only [B, xB, F, reduceLT, reduceLeDiff, reduceEqDiff, reduceAdd, reduceMul, reduceSub, ↓reduceIte, eq_self]) (by simp only [B, xB, F, reduceLT, reduceLeDiff, reduceEqDiff, reduceAdd, reduceMul, reduceSub, ↓reduceIte, eq_self]) (kc c11 o8 (by omega) (by simp)) (kw w11 o8 (by omega) (by simp)) (kc c12 o8 (by omega) (by simp)) (kc c13 o8 (by omega) (by simp)) (kw w13 o8 (by omega) (by simp)) (kc c14 o8 (by omega) (by simp)) (kw w14 o8 (by omega) (by simp))
  (m5.keep (o57.t o8).1 (by simp)) q1 q2 (kc md.c0 o08 lbm (by simp)) (SliceAt.only o08.1 md.sl (fun _ _ => by simp)) (by omega) (by omega) (by omega) (by omega) (fun c e => by have := nv c e; omega) ?_
 intro h9 w wv j
 have C11 := j.c11
 have gwo := j.gw.one
 repeat' (first | ((with_reducible refine st1 ?_); (conv => whnf); (with_reducible refine ⟨?_⟩)) | ((with_reducible refine retW_intro rfl ?_); (conv => arg 2; whnf)) | ((with_reducible first | refine iB ?_ ?_ | refine gWt ?_ ?_ | refine gWf ?_ ?_) <;> intro hb <;> (try simp only [hb])) | (simp only [B, xB, F, reduceLT, reduceLeDiff, reduceEqDiff, reduceAdd, reduceMul, reduceSub, ↓reduceIte, eq_self, C11, gwo]))
 refine retW_undef j.df rfl ?_
 (conv => arg 2; whnf)
 simp only [B, xB, F, reduceLT, reduceLeDiff, reduceEqDiff, reduceAdd, reduceMul, reduceSub, ↓reduceIte, eq_self]
 have nx9 := j.nx
 refine ⟨⟨⟨by rw [nx_obj]; omega, fun c hc hn => ?_⟩, ?_⟩, ?_⟩
 ·rw [get_obj_ne (by omega), j.old c (by omega) (by omega) (by omega) (by omega) (by omega)]; exact o08.1.2 c hc (by simp)
 ·show h9.g = h0.g
  rw [j.g]; exact o08.2
 ·exact (j.gw.of_get (h' := h9.obj h8.nx (.deferred none)) (Nat.le_refl _) (fun c e => get_obj_ne (by have := (j.gw.base e).1; omega) _)).wk (by omega)
end
end Go.Proofs.Ytnedigoajoflaaa.M

namespace Go.Proofs.Ytnedigoajoflaaa.M
open Go Go.AX
noncomputable section
set_option maxRecDepth 100000
def vw (L : List Rec) : View := L.foldl layV []
theorem fold_nd : ∀ (L : List Rec) (W : View), (W.map (·.1)).Nodup → ((L.foldl layV W).map (·.1)).Nodup
 | [], _, h => h
 | r :: L, W, h => fold_nd L (layV W r) (layV_nd h)
theorem atV_fold {m : Nat} : ∀ (L : List Rec) (W : View), (∀ x, x ∈ L → x.main ≤ m) → L.foldl (fun W r => if r.main ≤ m then layV W r else W) W = L.foldl layV W
 | [], _, _ => rfl
 | r :: L, W, h => by
  rw [List.foldl_cons, List.foldl_cons, if_pos (h r (by simp))]
  exact atV_fold L _ (fun x hx => h x (by simp [hx]))
theorem atV_vw {m : Nat} {L : List Rec} (h : ∀ x, x ∈ L → x.main ≤ m) : atV m L = vw L := atV_fold L [] h
theorem atV_later : ∀ {m : Nat} (L : List Rec) (W : View), (∀ x, x ∈ L → m < x.main) → L.foldl (fun W r => if r.main ≤ m then layV W r else W) W = W
 | _, [], _, _ => rfl
 | m, r :: L, W, h => by
  rw [List.foldl_cons, if_neg (by have := h r (by simp); omega)]
  exact atV_later L W (fun x hx => h x (by simp [hx]))
theorem atV_old {m : Nat} {L0 L1 : List Rec} (h : ∀ x, x ∈ L1 → m < x.main) : atV m (L0 ++ L1) = atV m L0 := by
 unfold atV
 rw [List.foldl_append]
 exact atV_later L1 _ h
structure HOk (L : List Rec) : Prop where
 so : L.Pairwise fun x y => x.main ≤ y.main
 ks : L.Pairwise fun x y => x.main = y.main → x.kv.key ≠ y.kv.key
theorem getR_fold {k : List Nat} : ∀ (w : List Rec) (V : View), (V.map (·.1)).Nodup → (∀ r, r ∈ w → r.kv.key ≠ k) → getR k (w.foldl layV V) = getR k V
 | [], _, _, _ => rfl
 | r :: w, V, nd, h => by
  rw [List.foldl_cons, getR_fold w (layV V r) (layV_nd nd) (fun x hx => h x (by simp [hx])), getR_lay nd, if_neg (fun e => h r (by simp) e.symm)]
theorem lies_all (k : List Nat) : liesB k [] [0] = true := by
 unfold liesB
 cases k <;> simp [listLtB]
def outS (lo : Nat) : View → List Rec → List Ev
 | _, [] => []
 | V, r :: L => (if lo ≤ r.main then [evOf V r] else []) ++ outS lo (layV V r) L
theorem outS_snoc (lo : Nat) (r : Rec) : ∀ (L : List Rec) (V : View), outS lo V (L ++ [r]) = outS lo V L ++ (if lo ≤ r.main then [evOf (L.foldl layV V) r] else [])
 | [], V => by simp [outS]
 | x :: L, V => by
  show (if lo ≤ x.main then [evOf V x] else []) ++ outS lo (layV V x) (L ++ [r]) = _
  rw [outS_snoc lo r L (layV V x), ← List.append_assoc]; rfl
theorem evOf_eq {V W : View} {r : Rec} (h : getR r.kv.key V = getR r.kv.key W) : evOf V r = evOf W r := by
 unfold evOf getKV; rw [h]
structure EvI (lo : Nat) (L : List Rec) (s : EvS) : Prop where
 nd : (s.v.map (·.1)).Nodup
 v : s.w.foldl layV s.v = vw L
 wm : ∀ r, r ∈ s.w → r.main = s.main ∧ r ∈ L
 out : s.out = outS lo [] L
theorem evF_ok {lo to : Nat} {L : List Rec} (hL : HOk L) (ht : ∀ x, x ∈ L → x.main ≤ to) : ∀ i, i ≤ L.length → EvI lo (L.take i) (evF lo to [] [0] (L.take i))
 | 0, _ => by rw [List.take_zero]; exact ⟨List.nodup_nil, rfl, fun r hr => (by cases hr), rfl⟩
 | i + 1, hi => by
  obtain ⟨r, hr⟩ : ∃ r, L[i]? = some r := ⟨_, List.getElem?_eq_getElem (by omega)⟩
  have ih := evF_ok (lo := lo) hL ht i (by omega)
  rw [evF_s hr, if_pos (ht r (List.mem_of_getElem? hr)), List.take_add_one, hr]
  obtain ⟨s, hs⟩ : ∃ s, s = evF lo to [] [0] (L.take i) := ⟨_, rfl⟩
  rw [← hs] at ih ⊢
  have hks : ∀ x, x ∈ L.take i → x.main = r.main → x.kv.key ≠ r.kv.key := fun x hx => by
   have h := hL.ks
   rw [← List.take_append_drop i L, List.pairwise_append] at h
   refine h.2.2 x hx r ?_
   rw [List.drop_eq_getElem_cons (by omega)]
   have : L[i] = r:= by rw [List.getElem?_eq_getElem (by omega)] at hr; exact Option.some.inj hr
   rw [this]; simp
  obtain ⟨nd, v, wm, out⟩ := ih
  have key : ∀ s' : EvS, s' = evNew s r → (s'.v.map (·.1)).Nodup ∧ s'.w.foldl layV s'.v = vw (L.take i) ∧ s'.main = r.main ∧ (∀ x, x ∈ s'.w → x.main = r.main ∧ x ∈ L.take i) ∧ s'.out = s.out ∧ getR r.kv.key s'.v = getR r.kv.key (vw (L.take i)) := by
   intro s' hs'
   unfold evNew at hs'
   by_cases q : r.main = s.main
   ·rw [if_pos q] at hs'
    subst hs'
    refine ⟨nd, v, q.symm, fun x hx => by have := wm x hx; exact ⟨by omega, this.2⟩, rfl, ?_⟩
    rw [← v, getR_fold _ _ nd (fun x hx => by have := wm x hx; exact hks x this.2 (by omega))]
   ·rw [if_neg q] at hs'
    subst hs'
    exact ⟨by show ((s.w.foldl layV s.v).map (·.1)).Nodup; exact fold_nd _ _ nd, v, rfl, fun x hx => (by cases hx), rfl, by show getR _ (s.w.foldl layV s.v) = _; rw [v]⟩
  obtain ⟨k1, k2, k3, k4, k5, k6⟩ := key (evNew s r) rfl
  unfold evStep evAdd
  refine ⟨k1, ?_, fun x hx => ?_, ?_⟩
  ·show (((evNew s r).w ++ [r]).foldl layV (evNew s r).v) = vw (L.take i ++ [r])
   unfold vw
   rw [List.foldl_append, List.foldl_append, k2]; rfl
  ·rcases List.mem_append.1 hx with q | q
   ·have := k4 x q
    exact ⟨by show x.main = (evNew s r).main; omega, List.mem_append_left _ this.2⟩
   ·simp at q; subst q
    exact ⟨k3.symm, by simp⟩
  ·show (evNew s r).out ++ _ = outS lo [] (L.take i ++ [r])
   rw [outS_snoc, k5, out, k3]
   congr 1
   by_cases q : lo ≤ r.main
   ·rw [if_pos ⟨q, lies_all _⟩, if_pos q, evOf_eq k6]; rfl
   ·rw [if_neg (fun e => q e.1), if_neg q]
def evs : View → List Rec → List Ev
 | _, [] => []
 | V, r :: L => evOf V r :: evs (layV V r) L
theorem evs_len : ∀ (L : List Rec) (V : View), (evs V L).length = L.length
 | [], _ => rfl
 | r :: L, V => by show (evs (layV V r) L).length + 1 = _; rw [evs_len]; rfl
theorem outS_old {lo : Nat} : ∀ (L0 : List Rec) (V : View) (L1 : List Rec), (∀ x, x ∈ L0 → ¬ lo ≤ x.main) → outS lo V (L0 ++ L1) = outS lo (L0.foldl layV V) L1
 | [], _, _, _ => rfl
 | r :: L0, V, L1, h => by
  show (if lo ≤ r.main then [evOf V r] else []) ++ outS lo (layV V r) (L0 ++ L1) = _
  rw [if_neg (h r (by simp)), outS_old L0 _ L1 (fun x hx => h x (by simp [hx]))]; rfl
theorem outS_new {lo : Nat} : ∀ (L1 : List Rec) (V : View), (∀ x, x ∈ L1 → lo ≤ x.main) → outS lo V L1 = evs V L1
 | [], _, _ => rfl
 | r :: L1, V, h => by
  show (if lo ≤ r.main then [evOf V r] else []) ++ outS lo (layV V r) L1 = evOf V r :: evs (layV V r) L1
  rw [if_pos (h r (by simp)), outS_new L1 _ (fun x hx => h x (by simp [hx]))]; rfl
theorem evF_out {m to : Nat} {L0 L1 : List Rec} (hL : HOk (L0 ++ L1)) (ht : ∀ x, x ∈ L0 ++ L1 → x.main ≤ to) (h0 : ∀ x, x ∈ L0 → x.main ≤ m) (h1 : ∀ x, x ∈ L1 → m < x.main) : (evF (m + 1) to [] [0] (L0 ++ L1)).out = evs (vw L0) L1 := by
 have h := (evF_ok (lo := m + 1) hL ht _ (Nat.le_refl _)).out
 rw [List.take_length] at h
 rw [h, outS_old L0 [] L1 (fun x hx => by have := h0 x hx; omega), outS_new L1 _ (fun x hx => by have := h1 x hx; omega)]; rfl
end
end Go.Proofs.Ytnedigoajoflaaa.M

namespace Go.Proofs.Ytnedigoajoflaaa.M
open Go Go.AX
noncomputable section
set_option maxRecDepth 100000
theorem u53a : P.underlying 53 = some (.map 9 55):= by kernel_rfl
theorem z55a : zeroA P 55 = some (.agg kv0.cs):= by kernel_rfl
theorem mk53 (tm : T AV) (h : H) : execA P tm h (.makeMap 53 none) = .val (.map h.nx) (h.alloc (.map [] 0)):= by simp only [execA, u53a, evalO]
def mN (W : View) : List (List Nat × AV) := W.map fun p => (p.1, .agg p.2.kv.cs)
theorem put_mN (k : List Nat) (r : Rec) : ∀ W : View, mapPut k (.agg r.kv.cs) (mN W) = mN (putV k r W)
 | [] => rfl
 | (a, x) :: W => by
  have ih := put_mN k r W
  show mapPut k (.agg r.kv.cs) ((a, .agg x.kv.cs) :: mN W) = _
  unfold mapPut putV
  by_cases q : k = a
  ·rw [if_pos q, if_pos q]; rfl
  ·rw [if_neg q, if_neg q, ih]; rfl
theorem del_mN (k : List Nat) : ∀ W : View, mapDel k (mN W) = mN (delV k W)
 | [] => rfl
 | (a, x) :: W => by
  have ih := del_mN k W
  show mapDel k ((a, .agg x.kv.cs) :: mN W) = _
  unfold mapDel delV
  by_cases q : k = a
  ·rw [if_pos q, if_pos q]
  ·rw [if_neg q, if_neg q, ih]; rfl
theorem get_mN (k : List Nat) (W : View) : mapGet k (mN W) = (getR k W).map fun r => .agg r.kv.cs := by
 unfold mapGet getR mN
 induction W with
 | nil => rfl
 | cons p W ih =>
  rw [List.map_cons, List.find?_cons, List.find?_cons]
  by_cases q : k = p.1
  ·simp [q]
  ·simp only [decide_eq_false q]; exact ih
theorem look_mN {h : H} {r : Nat} {W : View} (m : MapK encS h r (mN W)) (k : List Nat) : lookupA P 53 (.map r) (.str k) false h = some (.agg (getKV k W).cs) := by
 have h1 := lookup_k (P := P) u53a k9m z55a m k false
 rw [get_mN] at h1
 unfold getKV
 cases q : getR k W with
 | none => rw [q] at h1; exact h1
 | some x => rw [q] at h1; exact h1
def ofKV (x : KV) : List Nat × Rec := (x.key, ⟨0, 0, x, false⟩)
def ofKVs (l : List KV) : View := l.map ofKV
theorem putV_new {k : List Nat} {r : Rec} : ∀ {W : View}, k ∉ W.map (·.1) → putV k r W = W ++ [(k, r)]
 | [], _ => rfl
 | (a, x) :: W, h => by
  rw [List.map_cons, List.mem_cons] at h
  unfold putV
  rw [if_neg (fun e => h (.inl e)), putV_new (fun e => h (.inr e))]; rfl
theorem ofKVs_s {l : List KV} (hr : Rise l) {i : Nat} {x : KV} (hx : l[i]? = some x) : putV x.key ⟨0, 0, x, false⟩ (ofKVs (l.take i)) = ofKVs (l.take (i + 1)) := by
 have hi : i < l.length := (List.getElem?_eq_some_iff.1 hx).1
 rw [putV_new, List.take_add_one, hx]
 ·unfold ofKVs; rw [List.map_append]; rfl
 ·unfold ofKVs
  rw [List.map_map]
  intro hm
  obtain ⟨y, hy, e⟩ := List.mem_map.1 hm
  have nd := rise_nd hr
  rw [← List.take_append_drop i l, List.map_append, List.nodup_append] at nd
  have hd : x ∈ l.drop i := by
   rw [List.drop_eq_getElem_cons hi]
   have : l[i] = x:= by rw [List.getElem?_eq_getElem hi] at hx; exact Option.some.inj hx
   rw [this]; simp
  exact nd.2.2 _ (List.mem_map.2 ⟨y, hy, rfl⟩) _ (List.mem_map.2 ⟨x, hd, rfl⟩) e
theorem ofKVs_nd {l : List KV} (hr : Rise l) : ((ofKVs l).map (·.1)).Nodup := by
 unfold ofKVs; rw [List.map_map]; exact rise_nd hr
structure Alike (W V : View) : Prop where
 nw : (W.map (·.1)).Nodup
 nv : (V.map (·.1)).Nodup
 kv : ∀ k, (getR k W).map (·.kv) = (getR k V).map (·.kv)
theorem Alike.get {W V : View} (a : Alike W V) (k : List Nat) : getKV k W = getKV k V:= by unfold getKV; rw [a.kv]
def layE (W : View) (x : Ev) : View := if x.tomb then delV x.kv.key W else putV x.kv.key ⟨0, 0, x.kv, false⟩ W
theorem layE_nd {W : View} (h : (W.map (·.1)).Nodup) (x : Ev) : ((layE W x).map (·.1)).Nodup := by
 unfold layE
 split
 ·exact (delV_sub.map (·.1)).nodup h
 ·exact putV_nd h
theorem Alike.lay {W V : View} (a : Alike W V) (U : View) (r : Rec) : Alike (layE W (evOf U r)) (layV V r) := by
 refine ⟨layE_nd a.nw _, layV_nd a.nv, fun k => ?_⟩
 rw [getR_lay a.nv]
 unfold layE
 show (getR k (if r.tomb then delV r.kv.key W else putV r.kv.key ⟨0, 0, r.kv, false⟩ W)).map (·.kv) = _
 cases q : r.tomb with
 | true =>
  rw [if_pos rfl, getR_del k _ W a.nw]
  by_cases e : k = r.kv.key
  ·rw [if_pos e, if_pos e]; rfl
  ·rw [if_neg e, if_neg e]; exact a.kv k
 | false =>
  rw [if_neg (by simp), getR_put]
  by_cases e : k = r.kv.key
  ·rw [if_pos e, if_pos e]; rfl
  ·rw [if_neg e, if_neg e]; exact a.kv k
theorem Alike.keys {W V : View} (a : Alike W V) (k : List Nat) : k ∈ W.map (·.1) ↔ k ∈ V.map (·.1) := by
 rw [← getR_isSome, ← getR_isSome]
 have := congrArg Option.isSome (a.kv k)
 rw [Option.isSome_map, Option.isSome_map] at this
 rw [this]
theorem Alike.len {W V : View} (a : Alike W V) : W.length = V.length := by
 have : (W.map (·.1)).Perm (V.map (·.1)) := (List.perm_ext_iff_of_nodup a.nw a.nv).2 a.keys
 have := this.length_eq
 rwa [List.length_map, List.length_map] at this
theorem inV_all_len (V : View) : (inV V [] [0]).length = V.length := by
 unfold inV
 have : (sortS (V.map (·.1))).filter (fun k => liesB k [] [0]) = sortS (V.map (·.1)) := List.filter_eq_self.2 fun k _ => lies_all k
 rw [this, List.length_map, (sortS_perm _).length_eq, List.length_map]
theorem getR_ofKVs {l : List KV} (nd : (l.map (·.key)).Nodup) (k : List Nat) : (getR k (ofKVs l)).map (·.kv) = l.find? fun x => decide (k = x.key) := by
 unfold getR ofKVs
 rw [List.find?_map, Option.map_map, Option.map_map]
 show ((l.find? fun x => decide (k = x.key)).map fun x => x) = _
 cases l.find? fun x => decide (k = x.key) <;> rfl
theorem alike_inV {V : View} (v : VOk V) : Alike (ofKVs (inV V [] [0])) V := by
 have hr := inV_rise v [] [0]
 refine ⟨ofKVs_nd hr, v.nd, fun k => ?_⟩
 rw [getR_ofKVs (rise_nd hr)]
 by_cases h : k ∈ V.map (·.1)
 ·obtain ⟨r, hrr⟩ := Option.isSome_iff_exists.1 (getR_isSome.2 h)
  rw [hrr]
  have hm : getKV k V ∈ inV V [] [0] := (inV_mem [] [0] _).2 ⟨k, h, lies_all k, rfl⟩
  have hk := getKV_key v h
  cases hf : (inV V [] [0]).find? fun x => decide (k = x.key) with
  | none =>
   have := List.find?_eq_none.1 hf _ hm
   rw [hk] at this; simp at this
  | some y =>
   have hy := List.mem_of_find?_eq_some hf
   have hp := List.find?_some hf
   obtain ⟨k2, h2, -, e⟩ := (inV_mem [] [0] y).1 hy
   have hk2 := getKV_key v h2
   have : k = k2:= by rw [e, hk2] at hp; simpa using hp
   subst this
   rw [e]; unfold getKV; rw [hrr]; rfl
 ·have h0 : getR k V = none := by
   cases q : getR k V with
   | none => rfl
   | some r => exact absurd (getR_isSome.1 (by rw [q]; rfl)) h
  rw [h0]
  refine List.find?_eq_none.2 fun y hy hp => ?_
  obtain ⟨k2, h2, -, e⟩ := (inV_mem [] [0] y).1 hy
  have hk2 := getKV_key v h2
  have : k = k2:= by rw [e, hk2] at hp; simpa using hp
  subst this
  exact h h2
end
end Go.Proofs.Ytnedigoajoflaaa.M

namespace Go.Proofs.Ytnedigoajoflaaa.M
open Go Go.AX
noncomputable section
set_option maxRecDepth 100000
theorem brem (h : H) (t : TypeId) (x y : Operand) (k : IntKind) (a b : Nat) (hb : 0 < b) : binR P h .rem t x y (.int k (.ofNat a)) (.int k (.ofNat b)) = .val (.int k (.ofNat (a % b))) h := by
 have := b_rem (P := P) (h := h) (t := t) (x := x) (y := y) k (.ofNat a) (.ofNat b) (by
  have : (Int.ofNat b == 0) = decide (b = 0) := eq_nat b 0
  rw [this]; exact decide_eq_false (by omega))
 rw [tmod_nat] at this; exact this
theorem u123a : P.underlying 123 = some (.array 6 9):= by kernel_rfl
theorem co9b : P.cellsOf 9 = 1:= by kernel_rfl
theorem ag9b : aggT P 9 = false:= by kernel_rfl
theorem ok9b : okT P 9 = true:= by kernel_rfl
def keyS (n : Nat) : List Nat :=
 match n % 6 with
 | 0 => [97]
 | 1 => [98]
 | 2 => [99]
 | 3 => [97, 98]
 | 4 => [98, 99]
 | _ => [100]
theorem keyS_len (n : Nat) : (keyS n).length ≤ 2 := by
 unfold keyS
 split <;> simp
theorem ix123 (n : Nat) : indexA P 123 (.agg [.str (bytesOf ⟨#[97]⟩), .str (bytesOf ⟨#[98]⟩), .str (bytesOf ⟨#[99]⟩), .str (bytesOf ⟨#[97, 98]⟩), .str (bytesOf ⟨#[98, 99]⟩), .str (bytesOf ⟨#[100]⟩)]) (.int .u8 (.ofNat (n % 6))) = some (.str (keyS n)) := by
 have hk : n % 6 < 6 := Nat.mod_lt _ (by omega)
 obtain ⟨k, hke⟩ : ∃ k, k = n % 6 := ⟨_, rfl⟩
 unfold keyS
 rw [← hke] at hk ⊢
 have hb : Nat.blt k 6 = true := Nat.ble_eq_true_of_le hk
 unfold indexA
 simp only [u123a, ok9b, co9b, hb, Bool.and_true, partA, ag9b, Nat.mul_one]
 rcases k with _ | _ | _ | _ | _ | _ | k
 all_goals first | rfl | omega
theorem keyC (h : H) (n : Nat) : PushC P (.enter 31 [.int .u8 (.ofNat n)] h) (SaysG h (.str (keyS n))) := by
 have b1 : ∀ h t x y, binR P h .rem t x y (.int .u8 (.ofNat n)) (.int .u8 (.ofNat 6)) = .val (.int .u8 (.ofNat (n % 6))) h := fun h t x y => brem h t x y .u8 n 6 (by omega)
 refine pushC_of_codeW (fn := Try.f31) (c := bodyC Try.f31) Try.func31 rfl ?_
 show codeW P 31 7 none _ _ _ _ _
 refine codeW_root ?_
 repeat' (first | ((with_reducible refine st1 ?_); (conv => whnf); (with_reducible refine ⟨?_⟩)) | ((with_reducible refine retW_intro rfl ?_); (conv => arg 2; whnf)) | ((with_reducible first | refine iB ?_ ?_ | refine gWt ?_ ?_ | refine gWf ?_ ?_) <;> intro hb <;> (try simp only [hb])) | (simp only [B, F, reduceLT, reduceLeDiff, reduceEqDiff, reduceAdd, reduceMul, reduceSub, ↓reduceIte, eq_self, b1, ix123]))
 exact ⟨rfl, Og.refl _ _⟩
theorem u89a : P.underlying 89 = some (.slice 5):= by kernel_rfl
theorem cv89 {h : H} {b : Nat} {cap : Cap} {n : Nat} (hn : n < 256) (hc : cellAt h b 0 = some (.int .u8 (.ofNat n))) : convR P 89 9 (.slice b 0 1 cap) h = .val (.str [n]) h := by
 have hr : h.row b 0 1 = some [.int .u8 (.ofNat n)] := row_ok (h := h) (b := b) (o := 0) (cs := [.int .u8 (.ofNat n)]) (fun j hj => by
  obtain rfl : j = 0:= by simpa using hj
  exact hc) (by simp)
 have hb : bytesA [.int .u8 (.ofNat n)] = some [n] := by
  show some [n % 256] = _
  rw [Nat.mod_eq_of_lt hn]
 have u9a : P.underlying 9 = some .string:= by kernel_rfl
 have u5a : P.underlying 5 = some (.int .u8):= by kernel_rfl
 unfold convR
 simp only [u89a, u9a]
 unfold convertA
 simp only [u89a, u9a, u5a, hr, hb]
end
end Go.Proofs.Ytnedigoajoflaaa.M


/-
  'IndexPlays' returns true, whatever the input; each argument reads as it did. No condition.
-/
import Derived.Test.YtlkngpckibidlaaGreatAxI
import Derived.Test.YtlkngpckibidlaaGreatG3
import Derived.Test.YtlkngpckibidlaaGreatRows
import Derived.OpenShut
set_option linter.unusedSimpArgs false
set_option linter.unusedVariables false
set_option linter.unusedSectionVars false
open Nat (reduceLT reduceLeDiff reduceEqDiff reduceAdd reduceMul reduceSub)
namespace Go.Proofs.YtlkngpckibidlaaGreat.X
open Go Go.AX
noncomputable section
set_option maxRecDepth 100000
theorem rO3ZPlayC {p q r : Prop} (hq : q) (fs : r) (f : r → q → p:= by intro fs hq; (repeat' (first | ((with_reducible refine st1 ?_); (conv => whnf); (with_reducible refine ⟨?_⟩)) | ((with_reducible refine st_dp ord3_0 ?_ rfl rfl ?_); exact rfl; (conv => arg 4; whnf); (conv => arg 3; whnf)) | ((with_reducible refine st_dp ord3_1 ?_ rfl rfl ?_); exact rfl; (conv => arg 4; whnf); (conv => arg 3; whnf)) | ((with_reducible refine st_dp ord3_2 ?_ rfl rfl ?_); exact rfl; (conv => arg 4; whnf); (conv => arg 3; whnf)) | ((with_reducible refine st_dp ord3_3 ?_ rfl rfl ?_); exact rfl; (conv => arg 4; whnf); (conv => arg 3; whnf)) | ((with_reducible refine retW_intro rfl ?_); (conv => arg 2; whnf)) | ((with_reducible first | refine iB ?_ ?_ | refine gWt ?_ ?_ | refine gWf ?_ ?_ | refine gXt ?_ ?_ | refine gXf ?_ ?_) <;> intro hb <;> (try simp only [hb])) | ((with_reducible show drawP _ _ _ _ _ _ _ _ _); first | ((with_reducible apply kP_rd); exact rfl; exact rfl) | ((with_reducible apply kP_rg); exact rfl; exact rfl; exact rfl) | ((with_reducible apply kP_cv); exact rfl; exact rfl; kernel_rfl) | ((with_reducible apply kP_al); exact rfl; exact rfl; exact rfl) | ((with_reducible apply kP_fl); exact rfl; exact rfl; exact rfl) | ((with_reducible apply kP_ex); exact rfl; exact rfl; kernel_rfl; exact rfl) | ((with_reducible apply kP_eg); exact rfl; exact rfl; kernel_rfl; exact rfl) | ((with_reducible refine kP_nl ?_ ?_))) | ((with_reducible show eOk _ _ _ _ _ _); first | (exact eok_nil) | (refine ke_rd ?_ ?_ ?_; exact rfl) | (apply ke_rg; exact rfl; exact rfl) | (refine ke_cv ?_ ?_ ?_ ?_; exact rfl; kernel_rfl) | (apply ke_fl; exact rfl) | (apply ke_al; exact rfl; exact rfl)) | ((with_reducible refine freshIs_new ?_); kernel_rfl) | (simp only [B, xB, F, reduceLT, reduceLeDiff, reduceEqDiff, reduceAdd, reduceMul, reduceSub, ↓reduceIte, eq_self, fs]))); exact hq) : p := f fs hq
structure A6 (h : H) (b : Nat) (wh : Int) (k : List Nat) (r : W.Rv) (made nth : Nat) : Prop where
 lt : b < h.nx
 c0 : cellAt h b 0 = some (.int .i64 wh)
 c1 : cellAt h b 1 = some (.str k)
 c2 : cellAt h b 2 = some (.int .u64 (.ofNat r.1))
 c3 : cellAt h b 3 = some (.int .u64 (.ofNat r.2))
 c4 : cellAt h b 4 = some (.int .u64 (.ofNat made))
 c5 : cellAt h b 5 = some (.int .u64 (.ofNat nth))
theorem A6.get {h h' : H} {b : Nat} {wh : Int} {k : List Nat} {r : W.Rv} {made nth : Nat} (a : A6 h b wh k r made nth) (hx : h.nx ≤ h'.nx) (e : h'.t.get b = h.t.get b) : A6 h' b wh k r made nth :=
 ⟨Nat.lt_of_lt_of_le a.lt hx, by rw [cellAt_of_get e]; exact a.c0, by rw [cellAt_of_get e]; exact a.c1, by rw [cellAt_of_get e]; exact a.c2, by rw [cellAt_of_get e]; exact a.c3, by rw [cellAt_of_get e]; exact a.c4, by rw [cellAt_of_get e]; exact a.c5⟩
theorem A6.keep {h h' : H} {b : Nat} {wh : Int} {k : List Nat} {r : W.Rv} {made nth : Nat} (a : A6 h b wh k r made nth) {S : List Nat} (o : Only h h' S) (hb : b ∉ S) : A6 h' b wh k r made nth := a.get o.1 (o.2 b a.lt hb)
def Away (bx br : Nat) (sx : AV) (b : Nat) : Prop := b ≠ bx ∧ b ≠ br ∧ blkOf sx ≠ some b
theorem Away.row {bx br : Nat} {sx : AV} {b : Nat} (h : Away bx br sx b) : b ∉ bx :: rowL sx ∧ b ∉ [br] := by
 refine ⟨?_, by simp; exact h.2.1⟩
 rw [List.mem_cons]
 rintro (e | e)
 ·exact h.1 e
 ·unfold rowL at e
  split at e
  ·rename_i c q; rw [List.mem_singleton] at e; subst e; exact h.2.2 q
  ·cases e
def StepK (hb : Nat) (h : H) (bx br n : Nat) (sx : AV) (tm : T AV) (K : KQ) : Prop :=
 ∀ tm2 h2 (e : Nat) R Q sx2 sr2, tm2.get 0 = tm.get 0 → tm2.get 3 = tm.get 3 → tm2.get 4 = tm.get 4 → tm2.get 5 = tm.get 5 → tm2.get 6 = tm.get 6 → tm2.get 7 = some (.int .i64 (.ofNat e)) → tm2.get 8 = some (.int .i64 (.ofNat e)) → h.nx ≤ h2.nx →
  (∀ c, c < h.nx → Away bx br sx c → h2.t.get c = h.t.get c) → PyS hb h2 bx br n R Q sx2 sr2 → K .norm [] tm2 h2
structure Stop3 (p : Prop) : Prop where
 go : p
theorem stopPut {ds : List Nat} {tm : T AV} {h : H} {K : KQ} (hw : Stop3 (codeW P 3 118 none (codeI (bodyC Tryz.f3) [0, 1, 0, 1, 0, 1, 1, 1, 0, 0, 1, 0, 0, 1, 0, 1, 1, 1]) ds tm h K)) : codeW P 3 118 none (codeI (bodyC Tryz.f3) [0, 1, 0, 1, 0, 1, 1, 1, 0, 0, 1, 0, 0, 1, 0, 1, 1, 1]) ds tm h K := hw.go
theorem stopTomb {ds : List Nat} {tm : T AV} {h : H} {K : KQ} (hw : Stop3 (codeW P 3 118 none (codeI (bodyC Tryz.f3) [0, 1, 1, 1, 0, 1, 0, 1, 1, 1, 0, 0, 1, 0, 0, 1, 0, 1, 1, 1]) ds tm h K)) : codeW P 3 118 none (codeI (bodyC Tryz.f3) [0, 1, 1, 1, 0, 1, 0, 1, 1, 1, 0, 0, 1, 0, 0, 1, 0, 1, 1, 1]) ds tm h K := hw.go
theorem stopRest {ds : List Nat} {tm : T AV} {h : H} {K : KQ} (hw : Stop3 (codeW P 3 118 none (codeI (bodyC Tryz.f3) [1, 0, 1, 1, 1, 1, 1, 0, 1, 0, 1, 1, 1, 0, 0, 1, 0, 0, 1, 0, 1, 1, 1]) ds tm h K)) : codeW P 3 118 none (codeI (bodyC Tryz.f3) [1, 0, 1, 1, 1, 1, 1, 0, 1, 0, 1, 1, 1, 0, 0, 1, 0, 0, 1, 0, 1, 1, 1]) ds tm h K := hw.go
theorem stopComp {ds : List Nat} {tm : T AV} {h : H} {K : KQ} (hw : Stop3 (codeW P 3 118 none (codeI (bodyC Tryz.f3) [1, 1, 1, 1, 1, 1, 0, 1, 0, 1, 1, 1, 0, 0, 1, 0, 0, 1, 0, 1, 1, 1]) ds tm h K)) : codeW P 3 118 none (codeI (bodyC Tryz.f3) [1, 1, 1, 1, 1, 1, 0, 1, 0, 1, 1, 1, 0, 0, 1, 0, 0, 1, 0, 1, 1, 1]) ds tm h K := hw.go
theorem stopTail {ds : List Nat} {tm : T AV} {h : H} {K : KQ} (hw : Stop3 (codeW P 3 118 none (codeI (bodyC Tryz.f3) [1, 1, 1, 1, 0, 0, 1, 0, 0, 1, 0, 1, 1, 1]) ds tm h K)) : codeW P 3 118 none (codeI (bodyC Tryz.f3) [1, 1, 1, 1, 0, 0, 1, 0, 0, 1, 0, 1, 1, 1]) ds tm h K := hw.go
section
variable {hb : Nat} {h : H} {bx br n b6 : Nat} {R : List Pr} {Q : List RR} {sx sr : AV} {wh : Int} {k : List Nat} {r : W.Rv} {made nth : Nat} {tm : T AV} {K : KQ}
theorem putStep (hs : PyS hb h bx br n R Q sx sr) (hn : n ≤ 100) (a : A6 h b6 wh k r made nth) (aw : Away bx br sx b6) (hr : r.1 < W.M64) (t3 : tm.get 3 = some (.ptr bx 0)) (t4 : tm.get 4 = some (.ptr br 0)) (t6 : tm.get 6 = some (.ptr b6 0)) (hK : StepK hb h bx br (n + 1) sx tm K) :
  codeW P 3 118 none (codeI (bodyC Tryz.f3) [0, 1, 0, 1, 0, 1, 1, 1, 0, 0, 1, 0, 0, 1, 0, 1, 1, 1]) [] tm h K := by
 obtain ⟨e, hp⟩ := pairPut hs hn k r hr
 have a1 := a.c1
 have a2 := a.c2
 have a3 := a.c3
 refine rO3ZPlayC ?_ (V t3<|V t4<|V t6<|V a1<|V a2<|a3)
 refine (hp.call P).mono P ?_
 rintro v h1 ⟨rfl, o1, hp2⟩
 have b := a.keep o1 aw.row.1
 have b1 := b.c1
 have b2 := b.c2
 have b3 := b.c3
 refine rO3ZPlayC ?_ (V t3<|V t4<|V t6<|V a1<|V a2<|V a3<|V b1<|V b2<|b3)
 refine (hp2.call P).mono P ?_
 rintro v h2 ⟨rfl, o2, R2, Q2, sx2, sr2, hs2⟩
 have c := b.keep o2 aw.row.2
 have c1 := c.c1
 have c2 := c.c2
 have c3 := c.c3
 unfold W.errV
 refine rO3ZPlayC ?_ (V t3<|V t4<|V t6<|V a1<|V a2<|V a3<|V b1<|V b2<|V b3<|V c1<|V c2<|c3)
 obtain ⟨x2, old⟩ := hs.rest o1 o2
 exact hK _ h2 e R2 Q2 sx2 sr2 (by exact sT) (by exact sT) (by exact sT) (by exact sT) (by exact sT) (by exact sT) (by exact sT) x2 (fun c hc aw => old c hc aw.1 aw.2.1 aw.2.2) hs2
theorem tombStep (hs : PyS hb h bx br n R Q sx sr) (hn : n ≤ 100) (a : A6 h b6 wh k r made nth) (aw : Away bx br sx b6) (t3 : tm.get 3 = some (.ptr bx 0)) (t4 : tm.get 4 = some (.ptr br 0)) (t6 : tm.get 6 = some (.ptr b6 0)) (hK : StepK hb h bx br (n + 1) sx tm K) :
  codeW P 3 118 none (codeI (bodyC Tryz.f3) [0, 1, 1, 1, 0, 1, 0, 1, 1, 1, 0, 0, 1, 0, 0, 1, 0, 1, 1, 1]) [] tm h K := by
 obtain ⟨e, hp⟩ := pairTomb hs hn k r
 have a1 := a.c1
 have a2 := a.c2
 have a3 := a.c3
 refine rO3ZPlayC ?_ (V t3<|V t4<|V t6<|V a1<|V a2<|a3)
 refine (hp.call P).mono P ?_
 rintro v h1 ⟨rfl, o1, hp2⟩
 have b := a.keep o1 aw.row.1
 have b1 := b.c1
 have b2 := b.c2
 have b3 := b.c3
 refine rO3ZPlayC ?_ (V t3<|V t4<|V t6<|V a1<|V a2<|V a3<|V b1<|V b2<|b3)
 refine (hp2.call P).mono P ?_
 rintro v h2 ⟨rfl, o2, R2, Q2, sx2, sr2, hs2⟩
 have c := b.keep o2 aw.row.2
 have c1 := c.c1
 have c2 := c.c2
 have c3 := c.c3
 unfold W.errV
 refine rO3ZPlayC ?_ (V t3<|V t4<|V t6<|V a1<|V a2<|V a3<|V b1<|V b2<|V b3<|V c1<|V c2<|c3)
 obtain ⟨x2, old⟩ := hs.rest o1 o2
 exact hK _ h2 e R2 Q2 sx2 sr2 (by exact sT) (by exact sT) (by exact sT) (by exact sT) (by exact sT) (by exact sT) (by exact sT) x2 (fun c hc aw => old c hc aw.1 aw.2.1 aw.2.2) hs2
theorem restStep (hs : PyS hb h bx br n R Q sx sr) (hn : n ≤ 100) (c : Rc) (b9 : Nat) (hc : ∀ i, i < 8 → cellAt h b9 i = (rcC c)[i]?) (hl : b9 < h.nx) (aw : Away bx br sx b9) (hv : c.version < W.M64) (t3 : tm.get 3 = some (.ptr bx 0)) (t4 : tm.get 4 = some (.ptr br 0)) (t9 : tm.get 9 = some (.ptr b9 0)) (hK : StepK hb h bx br (n + 1) sx tm K) :
  codeW P 3 118 none (codeI (bodyC Tryz.f3) [1, 0, 1, 1, 1, 1, 1, 0, 1, 0, 1, 1, 1, 0, 0, 1, 0, 0, 1, 0, 1, 1, 1]) [] tm h K := by
 obtain ⟨e, hp⟩ := pairRest hs hn c hv
 have z0 : cellAt h b9 0 = some (.int .u64 (.ofNat c.rev.1)) := hc 0 (by omega)
 have z1 : cellAt h b9 1 = some (.int .u64 (.ofNat c.rev.2)) := hc 1 (by omega)
 have z2 : cellAt h b9 2 = some (.str c.key) := hc 2 (by omega)
 have z3 : cellAt h b9 3 = some (.str c.val) := hc 3 (by omega)
 have z4 : cellAt h b9 4 = some (.int .u64 (.ofNat c.create)) := hc 4 (by omega)
 have z5 : cellAt h b9 5 = some (.int .u64 (.ofNat c.mod)) := hc 5 (by omega)
 have z6 : cellAt h b9 6 = some (.int .u64 (.ofNat c.version)) := hc 6 (by omega)
 have z7 : cellAt h b9 7 = some (.bool c.tomb) := hc 7 (by omega)
 refine rO3ZPlayC ?_ (V t3<|V t4<|V t9<|V z0<|V z1<|V z2<|V z3<|V z4<|V z5<|V z6<|z7)
 refine (hp.call P).mono P ?_
 rintro v h1 ⟨rfl, o1, hp2⟩
 have y0 := W.kcell z0 o1 hl aw.row.1
 have y1 := W.kcell z1 o1 hl aw.row.1
 have y2 := W.kcell z2 o1 hl aw.row.1
 have y3 := W.kcell z3 o1 hl aw.row.1
 have y4 := W.kcell z4 o1 hl aw.row.1
 have y5 := W.kcell z5 o1 hl aw.row.1
 have y6 := W.kcell z6 o1 hl aw.row.1
 have y7 := W.kcell z7 o1 hl aw.row.1
 refine rO3ZPlayC ?_ (V t3<|V t4<|V t9<|V z0<|V z1<|V z2<|V z3<|V z4<|V z5<|V z6<|V z7<|V y0<|V y1<|V y2<|V y3<|V y4<|V y5<|V y6<|y7)
 refine (hp2.call P).mono P ?_
 rintro v h2 ⟨rfl, o2, R2, Q2, sx2, sr2, hs2⟩
 have hl1 := Nat.lt_of_lt_of_le hl o1.1
 have x0 := W.kcell y0 o2 hl1 aw.row.2
 have x1 := W.kcell y1 o2 hl1 aw.row.2
 have x2 := W.kcell y2 o2 hl1 aw.row.2
 have x3 := W.kcell y3 o2 hl1 aw.row.2
 have x4 := W.kcell y4 o2 hl1 aw.row.2
 have x5 := W.kcell y5 o2 hl1 aw.row.2
 have x6 := W.kcell y6 o2 hl1 aw.row.2
 have x7 := W.kcell y7 o2 hl1 aw.row.2
 unfold W.errV
 refine rO3ZPlayC ?_ (V t3<|V t4<|V t9<|V z0<|V z1<|V z2<|V z3<|V z4<|V z5<|V z6<|V z7<|V y0<|V y1<|V y2<|V y3<|V y4<|V y5<|V y6<|V y7<|V x0<|V x1<|V x2<|V x3<|V x4<|V x5<|V x6<|x7)
 obtain ⟨x2, old⟩ := hs.rest o1 o2
 exact hK _ h2 e R2 Q2 sx2 sr2 (by exact sT) (by exact sT) (by exact sT) (by exact sT) (by exact sT) (by exact sT) (by exact sT) x2 (fun c hc aw => old c hc aw.1 aw.2.1 aw.2.2) hs2
theorem compStep (hs : PyS hb h bx br n R Q sx sr) (hn : n ≤ 100) (a : A6 h b6 wh k r made nth) (aw : Away bx br sx b6) (t3 : tm.get 3 = some (.ptr bx 0)) (t4 : tm.get 4 = some (.ptr br 0)) (t6 : tm.get 6 = some (.ptr b6 0)) (t7 : tm.get 7 = some (.int .i64 (.ofNat 0))) (t8 : tm.get 8 = some (.int .i64 (.ofNat 0)))
  (hK : StepK hb h bx br (n + 1) sx tm K) : codeW P 3 118 none (codeI (bodyC Tryz.f3) [1, 1, 1, 1, 1, 1, 0, 1, 0, 1, 1, 1, 0, 0, 1, 0, 0, 1, 0, 1, 1, 1]) [] tm h K := by
 obtain ⟨l, hl, hp⟩ := pairComp hs hn r.1
 have a2 := a.c2
 refine rO3ZPlayC ?_ (V t3<|V t4<|V t6<|a2)
 refine (hp.call P).mono P ?_
 rintro v h1 ⟨hvo, o1, hp2⟩
 have b := a.keep o1 aw.row.1
 have b2 := b.c2
 refine rO3ZPlayC ?_ (V t3<|V t4<|V t6<|V a2<|V b2<|hvo)
 refine (hp2.call P).mono P ?_
 rintro u h2 ⟨o2, sv, su, huo, R2, Q2, sx2, sr2, hs2⟩
 have c := b.keep o2 aw.row.2
 have c2 := c.c2
 refine rO3ZPlayC ?_ (V t3<|V t4<|V t6<|V a2<|V b2<|V c2<|V hvo<|huo)
 refine ((W.revsC h2 v u l l sv su (by omega)).call P).mono P ?_
 rintro _ h3 ⟨rfl, o3⟩
 rw [decide_eq_true rfl]
 have d := c.keep o3 (by simp)
 have d2 := d.c2
 refine rO3ZPlayC ?_ (V t3<|V t4<|V t6<|V a2<|V b2<|V c2<|V d2<|V hvo<|V huo<|@Bool.not_true)
 obtain ⟨x2, old⟩ := hs.rest o1 o2
 exact hK _ h3 0 R2 Q2 sx2 sr2 (by exact sT) (by exact sT) (by exact sT) (by exact sT) (by exact sT) (by exact sT) (by exact sT) (Nat.le_trans x2 o3.1) (fun c hc aw => by rw [o3.2 c (by omega) (by simp)]; exact old c hc aw.1 aw.2.1 aw.2.2) (hs2.keep o3)
theorem plyTail (hs : PyS hb h bx br n R Q sx sr) (hn : n ≤ 100) (a : A6 h b6 wh k r made nth) (hk : k.length ≤ 100) (hr : r.1 < W.M64) (e : Nat) (t3 : tm.get 3 = some (.ptr bx 0)) (t4 : tm.get 4 = some (.ptr br 0)) (t6 : tm.get 6 = some (.ptr b6 0)) (t7 : tm.get 7 = some (.int .i64 (.ofNat e))) (t8 : tm.get 8 = some (.int .i64 (.ofNat e)))
  (hK : ∀ tm2 h2, tm2.get 0 = tm.get 0 → tm2.get 3 = tm.get 3 → tm2.get 4 = tm.get 4 → tm2.get 5 = tm.get 5 → Only h h2 [] → K .norm [] tm2 h2) : codeW P 3 118 none (codeI (bodyC Tryz.f3) [1, 1, 1, 1, 0, 0, 1, 0, 0, 1, 0, 1, 1, 1]) [] tm h K := by
 have a1 := a.c1
 have a2 := a.c2
 have e1 : (Int.ofNat e != Int.ofNat e) = false:= by simp
 have e2 : decide (e = e) = true := decide_eq_true rfl
 refine rN ?_ (V t3<|V t4<|V t6<|V t7<|V t8<|V a1<|V a2<|V e1<|e2)
 refine ((sayC h bx br n R Q sx sr k r.1 hs.ix hs.rx hs.tw hn hk hr).call P).mono P ?_
 rintro _ h2 ⟨rfl, o2⟩
 refine rN ?_ (V t3<|V t4<|V t6<|V t7<|V t8<|V a1<|V a2<|V e1<|V e2<|@Bool.not_true)
 exact hK _ h2 (by exact sT) (by exact sT) (by exact sT) (by exact sT) o2
end
end
end Go.Proofs.YtlkngpckibidlaaGreat.X

namespace Go.Proofs.YtlkngpckibidlaaGreat.X
open Go Go.AX
noncomputable section
set_option maxRecDepth 100000
structure ActN where
 wh : Int
 key : List Nat
 a : Nat
 b : Nat
 made : Nat
 nth : Nat
def ActN.ok (x : ActN) : Prop := x.a < W.M64 ∧ x.b < W.M64 ∧ x.made < W.M64 ∧ x.nth < W.M64
def acC (x : ActN) : List AV := [.int .i64 x.wh, .str x.key, .int .u64 (.ofNat x.a), .int .u64 (.ofNat x.b), .int .u64 (.ofNat x.made), .int .u64 (.ofNat x.nth)]
theorem acC_len (x : ActN) : (acC x).length = 6 := rfl
theorem acC_at {h : H} {b o n : Nat} {cap : Cap} {l : List ActN} (hs : SliceAt h (.slice b o n cap) n (l.flatMap acC)) {i : Nat} {x : ActN} (hx : l[i]? = some x) :
  cellAt h b (o + i * 6) = some (.int .i64 x.wh) ∧ cellAt h b (o + i * 6 + 1) = some (.str x.key) ∧ cellAt h b (o + i * 6 + 2) = some (.int .u64 (.ofNat x.a)) ∧ cellAt h b (o + i * 6 + 3) = some (.int .u64 (.ofNat x.b)) ∧ cellAt h b (o + i * 6 + 4) = some (.int .u64 (.ofNat x.made)) ∧ cellAt h b (o + i * 6 + 5) = some (.int .u64 (.ofNat x.nth)) :=
 ⟨W.sl_cell acC_len hs hx (j := 0) (by omega), W.sl_cell acC_len hs hx (j := 1) (by omega), W.sl_cell acC_len hs hx (j := 2) (by omega), W.sl_cell acC_len hs hx (j := 3) (by omega), W.sl_cell acC_len hs hx (j := 4) (by omega), W.sl_cell acC_len hs hx (j := 5) (by omega)⟩
theorem u9a : P.underlying 9 = some .string:= by kernel_rfl
theorem cut20 (k : List Nat) : sliceA P 9 (.str k) none (some (.int .i64 (.ofNat (min k.length 20)))) none = some (.str (k.take (min k.length 20))) := by
 have hb : Nat.ble (min k.length 20) k.length = true:= by rw [Nat.ble_eq]; exact Nat.min_le_left _ _
 simp only [sliceA, u9a, sliceStr, bndO, bnd, lenL_eq, hb, List.drop_zero, Nat.ble]
structure PlJ (h0 : H) (vl : AV) (l : List ActN) (bx br : Nat) (n : Nat) (ds : List Nat) (tm : T AV) (h : H) (i : Nat) (R : List Pr) (Q : List RR) (sx sr : AV) : Prop where
 ds : ds = []
 nn : n = l.length - i
 ii : i ≤ l.length ∧ i ≤ 60
 t0 : tm.get 0 = some vl
 t3 : tm.get 3 = some (.ptr bx 0)
 t4 : tm.get 4 = some (.ptr br 0)
 t5 : tm.get 5 = some (.int .i64 (.ofNat i))
 oo : Only h0 h []
 ps : PyS h0.nx h bx br i R Q sx sr
theorem rt_nil (h : H) (p : Nat → Prop) (b : Nat) (hb : b < h.nx) (c0 : cellAt h b 0 = some .nilslice) (w : wrAt h b = true) : RIx p h b [] .nilslice := ⟨hb, c0, w, .none, fun _ q => (by cases q), fun e => (by cases e)⟩
set_option maxHeartbeats 4000000 in
theorem playsW (h0 : H) (vl : AV) (l : List ActN) (sl : SliceAt h0 vl l.length (l.flatMap acC)) (hl : ∀ x, x ∈ l → x.ok) :
  codeW P 3 118 none (bodyC Tryz.f3) [] (T.fill .e 0 [vl]) h0 (retK P Tryz.f3 PostTrue) := by
 have hlen := sl.len (P := P) u22
 have hvo := W.SliceAt.one sl
 refine codeW_root ?_
 refine rN0 ?_
 refine ((newC h0).call P).mono P ?_
 rintro v h1 ⟨rfl, o1, x1, hix⟩
 obtain ⟨h2, h2e⟩ : ∃ h2, h2 = h1.newCells 28 [.nilslice] := ⟨_, rfl⟩
 have o2 : Only h1 h2 []:= by rw [h2e]; exact (Only.refl _ _).new _ _
 have x2 : h2.nx = h1.nx + 1:= by rw [h2e]; rfl
 have z2 : cellAt h2 h1.nx 0 = some .nilslice:= by rw [h2e]; exact sT
 have w2 : wrAt h2 h1.nx = true:= by rw [h2e]; exact sT
 have ix0 : IxR (fun c => c ≠ h1.nx) h2 h0.nx [] .nilslice := (hix (fun _ => True) (fun _ _ => trivial)).off o2 (fun c q => by cases q) (fun c hc _ => by omega) (fun c hc => by omega)
 have ps0 : PyS h0.nx h2 h0.nx h1.nx 0 [] [] .nilslice .nilslice := ⟨ix0, rt_nil _ _ _ (by omega) z2 w2, Twin.nil 0, by omega, fun c e => (by cases e), fun c e => (by cases e), Nat.le_refl _, by omega⟩
 refine rN ?_ (h2e.symm)
 refine st_loop (fun n ds tm h => ∃ i R Q sx sr, PlJ h0 vl l h0.nx h1.nx n ds tm h i R Q sx sr) l.length rfl ⟨0, [], [], .nilslice, .nilslice, rfl, rfl, ⟨Nat.zero_le _, by omega⟩, by exact sT, by exact sT, by exact sT, by exact sT, o1.t o2, ps0⟩ (fun n ds tm h hI => ?_)
 clear ps0 ix0 z2 w2 hix
 obtain ⟨i, R, Q, sx, sr, rfl, rfl, ⟨i1, i2⟩, t0, t3, t4, t5, oo, ps⟩ := hI
 by_cases hi : i < l.length ∧ i < 60
 ·have d1 : decide (i < l.length) = true := decide_eq_true hi.1
  have d2 : decide (i < 60) = true := decide_eq_true hi.2
  have lt1 : (i < l.length) = True:= by simp [hi.1]
  have wi : wrapF .i64 (Int.ofNat i + Int.ofNat 1) = Int.ofNat (i + 1) := i64_add (by omega)
  obtain ⟨x, hx⟩ : ∃ x, l[i]? = some x := ⟨_, List.getElem?_eq_getElem hi.1⟩
  have hxo := hl x (List.mem_of_getElem? hx)
  have slh := sl.only oo (fun _ _ => by simp)
  obtain ⟨b, o, cap, rfl, hb, -⟩ := sl.place (by omega)
  obtain ⟨p0, p1, p2, p3, p4, p5⟩ := acC_at slh hx
  rw [Nat.add_assoc] at p1 p2 p3 p4 p5
  obtain ⟨wh, key, ra, rb, made, nth⟩ := x
  obtain ⟨ho1, ho2, ho3, ho4⟩ := hxo
  simp only at p0 p1 p2 p3 p4 p5 ho1 ho2 ho3 ho4
  have mn20 : (if Int.ofNat 20 < Int.ofNat key.length then Int.ofNat 20 else Int.ofNat key.length) = Int.ofNat (min key.length 20) := by
   by_cases q : 20 < key.length
   ·have q' : Int.ofNat 20 < Int.ofNat key.length := Int.ofNat_lt.2 q
    rw [if_pos q', Nat.min_eq_right (by omega)]
   ·have q' : ¬ Int.ofNat 20 < Int.ofNat key.length := fun h => q (Int.ofNat_lt.1 h)
    rw [if_neg q', Nat.min_eq_left (by omega)]
  have hcut := cut20 key
  obtain ⟨k, hk⟩ : ∃ k, k = key.take (min key.length 20) := ⟨_, rfl⟩
  rw [← hk] at hcut
  have hkl : k.length ≤ 100:= by rw [hk, List.length_take]; omega
  obtain ⟨hA, hAe⟩ : ∃ hA, hA = (h.newCells 33 [.int .i64 (.ofNat 0), .str [], .int .u64 (.ofNat 0), .int .u64 (.ofNat 0), .int .u64 (.ofNat 0), .int .u64 (.ofNat 0)]).sts h.nx 0 [.int .i64 wh, .str key, .int .u64 (.ofNat ra), .int .u64 (.ofNat rb), .int .u64 (.ofNat made), .int .u64 (.ofNat nth)] := ⟨_, rfl⟩
  have oA : Only h hA []:= by rw [hAe]; exact ((Only.refl _ _).new _ _).sts (.inr (Nat.le_refl _))
  have xA : hA.nx = h.nx + 1:= by rw [hAe, nx_sts, nx_new]
  have uA : wrAt hA h.nx = true:= by rw [hAe, wrAt_sts, wrAt_new, if_pos rfl]
  have kA : cellAt hA h.nx 1 = some (.str key):= by rw [hAe, cellAt_sts (by rw [wrAt_new, if_pos rfl]), if_pos ⟨rfl, Nat.zero_le _, by simp⟩]; rfl
  obtain ⟨hB, hBe⟩ : ∃ hB, hB = hA.sts h.nx 1 [.str k] := ⟨_, rfl⟩
  have oB : Only h hB []:= by rw [hBe]; exact oA.sts (.inr (Nat.le_refl _))
  have xB' : hB.nx = h.nx + 1:= by rw [hBe, nx_sts]; exact xA
  have aB : A6 hB h.nx wh k (ra, rb) made nth := by
   refine ⟨by omega, ?_, ?_, ?_, ?_, ?_, ?_⟩
   ·rw [hBe, cellAt_sts uA, if_neg (by simp), hAe, cellAt_sts (by rw [wrAt_new, if_pos rfl]), if_pos ⟨rfl, Nat.zero_le _, by simp⟩]; rfl
   ·rw [hBe, cellAt_sts uA, if_pos ⟨rfl, by omega, by simp⟩]; rfl
   ·rw [hBe, cellAt_sts uA, if_neg (by simp), hAe, cellAt_sts (by rw [wrAt_new, if_pos rfl]), if_pos ⟨rfl, Nat.zero_le _, by simp⟩]; rfl
   ·rw [hBe, cellAt_sts uA, if_neg (by simp), hAe, cellAt_sts (by rw [wrAt_new, if_pos rfl]), if_pos ⟨rfl, Nat.zero_le _, by simp⟩]; rfl
   ·rw [hBe, cellAt_sts uA, if_neg (by simp), hAe, cellAt_sts (by rw [wrAt_new, if_pos rfl]), if_pos ⟨rfl, Nat.zero_le _, by simp⟩]; rfl
   ·rw [hBe, cellAt_sts uA, if_neg (by simp), hAe, cellAt_sts (by rw [wrAt_new, if_pos rfl]), if_pos ⟨rfl, Nat.zero_le _, by simp⟩]; rfl
  have psB := ps.keep oB
  have hxl := ps.ix.ix.lt
  have hrl := ps.rx.lt
  have hsl := ps.ix.ix.sl.blk
  have aw : Away h0.nx h1.nx sx h.nx := ⟨by omega, by omega, fun e => by have := hsl _ e; omega⟩
  have a0 := aB.c0
  have a1 := aB.c1
  have a2 := aB.c2
  have a3 := aB.c3
  have a4 := aB.c4
  have a5 := aB.c5
  have hw1 : ∀ b : Bool, (b == true) = b := fun b => by cases b <;> rfl
  by_cases c0 : wh = Int.ofNat 0
  ·have q0 : (wh == Int.ofNat 0) = true:= by rw [c0]; rfl
   repeat' (first | (with_reducible refine stopPut ?_) | ((with_reducible refine st1 ?_); (conv => whnf); (with_reducible refine ⟨?_⟩)) | ((with_reducible refine retW_intro rfl ?_); (conv => arg 2; whnf)) | ((with_reducible first | refine iB ?_ ?_ | refine gWt ?_ ?_ | refine gWf ?_ ?_) <;> intro hb <;> (try simp only [hb])) | (simp only [B, xB, F, reduceLT, reduceLeDiff, reduceEqDiff, reduceAdd, reduceMul, reduceSub, ↓reduceIte, eq_self, t0, t3, t4, t5, hlen, d1, d2, lt1, p0, p1, p2, p3, p4, p5, ← hAe, uA, kA, mn20, ex_sl_h, hcut, put_sts, ← hBe, a0, q0]))
   refine ⟨putStep psB (by omega) aB aw ho1 (by exact sT) (by exact sT) (by exact sT) ?_⟩
   intro tm2 h3 e R2 Q2 sx2 sr2 y0 y3 y4 y5 y6 y7 y8 xx old ps2
   have z0 : tm2.get 0 = some (.slice b o l.length cap):= by rw [y0]; exact sT
   have z3 : tm2.get 3 = some (.ptr h0.nx 0):= by rw [y3]; exact sT
   have z4 : tm2.get 4 = some (.ptr h1.nx 0):= by rw [y4]; exact sT
   have z5 : tm2.get 5 = some (.int .i64 (.ofNat i)):= by rw [y5]; exact sT
   have z6 : tm2.get 6 = some (.ptr h.nx 0):= by rw [y6]; exact sT
   have a6 := aB.get xx (old h.nx (by omega) aw)
   clear t0 t3 t4 t5 y0 y3 y4 y5 y6
   repeat' (first | (with_reducible refine stopTail ?_) | ((with_reducible refine st1 ?_); (conv => whnf); (with_reducible refine ⟨?_⟩)) | ((with_reducible refine retW_intro rfl ?_); (conv => arg 2; whnf)) | ((with_reducible first | refine iB ?_ ?_ | refine gWt ?_ ?_ | refine gWf ?_ ?_) <;> intro hb <;> (try simp only [hb])) | (simp only [B, xB, F, reduceLT, reduceLeDiff, reduceEqDiff, reduceAdd, reduceMul, reduceSub, ↓reduceIte, eq_self]))
   refine ⟨plyTail ps2 (by omega) a6 hkl ho1 e z3 z4 z6 y7 y8 ?_⟩
   intro tm4 h4 y0 y3 y4 y5 o4
   have v0 : tm4.get 0 = some (.slice b o l.length cap):= by rw [y0, z0]
   have v3 : tm4.get 3 = some (.ptr h0.nx 0):= by rw [y3, z3]
   have v4 : tm4.get 4 = some (.ptr h1.nx 0):= by rw [y4, z4]
   have v5 : tm4.get 5 = some (.int .i64 (.ofNat i)):= by rw [y5, z5]
   clear z0 z3 z4 z5 z6 y0 y3 y4 y5
   have x4 := o4.1
   have xo := oo.1
   have o9 : Only h0 h4 [] := ⟨by omega, fun c hc _ => by rw [o4.2 c (by omega) (by simp), old c (by omega) ⟨by omega, by omega, fun e => by have := (ps.sb c e).1; omega⟩, oB.2 c (by omega) (by simp), oo.2 c hc (by simp)]⟩
   refine rN ?_ (V v5<|wi)
   exact ⟨l.length - (i + 1), by omega, i + 1, R2, Q2, sx2, sr2, rfl, rfl, ⟨by omega, by omega⟩, by exact sT, by exact sT, by exact sT, by exact sT, o9, ps2.keep o4⟩
  have q0 : (wh == Int.ofNat 0) = false := beq_eq_false_iff_ne.2 c0
  by_cases c1 : wh = Int.ofNat 1
  ·have q1 : (wh == Int.ofNat 1) = true:= by rw [c1]; rfl
   repeat' (first | (with_reducible refine stopPut ?_) | ((with_reducible refine st1 ?_); (conv => whnf); (with_reducible refine ⟨?_⟩)) | ((with_reducible refine retW_intro rfl ?_); (conv => arg 2; whnf)) | ((with_reducible first | refine iB ?_ ?_ | refine gWt ?_ ?_ | refine gWf ?_ ?_) <;> intro hb <;> (try simp only [hb])) | (simp only [B, xB, F, reduceLT, reduceLeDiff, reduceEqDiff, reduceAdd, reduceMul, reduceSub, ↓reduceIte, eq_self, t0, t3, t4, t5, hlen, d1, d2, lt1, p0, p1, p2, p3, p4, p5, ← hAe, uA, kA, mn20, ex_sl_h, hcut, put_sts, ← hBe, a0, q0, q1]))
   refine ⟨putStep psB (by omega) aB aw ho1 (by exact sT) (by exact sT) (by exact sT) ?_⟩
   intro tm2 h3 e R2 Q2 sx2 sr2 y0 y3 y4 y5 y6 y7 y8 xx old ps2
   have z0 : tm2.get 0 = some (.slice b o l.length cap):= by rw [y0]; exact sT
   have z3 : tm2.get 3 = some (.ptr h0.nx 0):= by rw [y3]; exact sT
   have z4 : tm2.get 4 = some (.ptr h1.nx 0):= by rw [y4]; exact sT
   have z5 : tm2.get 5 = some (.int .i64 (.ofNat i)):= by rw [y5]; exact sT
   have z6 : tm2.get 6 = some (.ptr h.nx 0):= by rw [y6]; exact sT
   have a6 := aB.get xx (old h.nx (by omega) aw)
   clear t0 t3 t4 t5 y0 y3 y4 y5 y6
   repeat' (first | (with_reducible refine stopTail ?_) | ((with_reducible refine st1 ?_); (conv => whnf); (with_reducible refine ⟨?_⟩)) | ((with_reducible refine retW_intro rfl ?_); (conv => arg 2; whnf)) | ((with_reducible first | refine iB ?_ ?_ | refine gWt ?_ ?_ | refine gWf ?_ ?_) <;> intro hb <;> (try simp only [hb])) | (simp only [B, xB, F, reduceLT, reduceLeDiff, reduceEqDiff, reduceAdd, reduceMul, reduceSub, ↓reduceIte, eq_self]))
   refine ⟨plyTail ps2 (by omega) a6 hkl ho1 e z3 z4 z6 y7 y8 ?_⟩
   intro tm4 h4 y0 y3 y4 y5 o4
   have v0 : tm4.get 0 = some (.slice b o l.length cap):= by rw [y0, z0]
   have v3 : tm4.get 3 = some (.ptr h0.nx 0):= by rw [y3, z3]
   have v4 : tm4.get 4 = some (.ptr h1.nx 0):= by rw [y4, z4]
   have v5 : tm4.get 5 = some (.int .i64 (.ofNat i)):= by rw [y5, z5]
   clear z0 z3 z4 z5 z6 y0 y3 y4 y5
   have x4 := o4.1
   have xo := oo.1
   have o9 : Only h0 h4 [] := ⟨by omega, fun c hc _ => by rw [o4.2 c (by omega) (by simp), old c (by omega) ⟨by omega, by omega, fun e => by have := (ps.sb c e).1; omega⟩, oB.2 c (by omega) (by simp), oo.2 c hc (by simp)]⟩
   refine rN ?_ (V v5<|wi)
   exact ⟨l.length - (i + 1), by omega, i + 1, R2, Q2, sx2, sr2, rfl, rfl, ⟨by omega, by omega⟩, by exact sT, by exact sT, by exact sT, by exact sT, o9, ps2.keep o4⟩
  have q1 : (wh == Int.ofNat 1) = false := beq_eq_false_iff_ne.2 c1
  by_cases c2 : wh = Int.ofNat 2
  ·have q2 : (wh == Int.ofNat 2) = true:= by rw [c2]; rfl
   repeat' (first | (with_reducible refine stopPut ?_) | ((with_reducible refine st1 ?_); (conv => whnf); (with_reducible refine ⟨?_⟩)) | ((with_reducible refine retW_intro rfl ?_); (conv => arg 2; whnf)) | ((with_reducible first | refine iB ?_ ?_ | refine gWt ?_ ?_ | refine gWf ?_ ?_) <;> intro hb <;> (try simp only [hb])) | (simp only [B, xB, F, reduceLT, reduceLeDiff, reduceEqDiff, reduceAdd, reduceMul, reduceSub, ↓reduceIte, eq_self, t0, t3, t4, t5, hlen, d1, d2, lt1, p0, p1, p2, p3, p4, p5, ← hAe, uA, kA, mn20, ex_sl_h, hcut, put_sts, ← hBe, a0, q0, q1, q2]))
   refine ⟨putStep psB (by omega) aB aw ho1 (by exact sT) (by exact sT) (by exact sT) ?_⟩
   intro tm2 h3 e R2 Q2 sx2 sr2 y0 y3 y4 y5 y6 y7 y8 xx old ps2
   have z0 : tm2.get 0 = some (.slice b o l.length cap):= by rw [y0]; exact sT
   have z3 : tm2.get 3 = some (.ptr h0.nx 0):= by rw [y3]; exact sT
   have z4 : tm2.get 4 = some (.ptr h1.nx 0):= by rw [y4]; exact sT
   have z5 : tm2.get 5 = some (.int .i64 (.ofNat i)):= by rw [y5]; exact sT
   have z6 : tm2.get 6 = some (.ptr h.nx 0):= by rw [y6]; exact sT
   have a6 := aB.get xx (old h.nx (by omega) aw)
   clear t0 t3 t4 t5 y0 y3 y4 y5 y6
   repeat' (first | (with_reducible refine stopTail ?_) | ((with_reducible refine st1 ?_); (conv => whnf); (with_reducible refine ⟨?_⟩)) | ((with_reducible refine retW_intro rfl ?_); (conv => arg 2; whnf)) | ((with_reducible first | refine iB ?_ ?_ | refine gWt ?_ ?_ | refine gWf ?_ ?_) <;> intro hb <;> (try simp only [hb])) | (simp only [B, xB, F, reduceLT, reduceLeDiff, reduceEqDiff, reduceAdd, reduceMul, reduceSub, ↓reduceIte, eq_self]))
   refine ⟨plyTail ps2 (by omega) a6 hkl ho1 e z3 z4 z6 y7 y8 ?_⟩
   intro tm4 h4 y0 y3 y4 y5 o4
   have v0 : tm4.get 0 = some (.slice b o l.length cap):= by rw [y0, z0]
   have v3 : tm4.get 3 = some (.ptr h0.nx 0):= by rw [y3, z3]
   have v4 : tm4.get 4 = some (.ptr h1.nx 0):= by rw [y4, z4]
   have v5 : tm4.get 5 = some (.int .i64 (.ofNat i)):= by rw [y5, z5]
   clear z0 z3 z4 z5 z6 y0 y3 y4 y5
   have x4 := o4.1
   have xo := oo.1
   have o9 : Only h0 h4 [] := ⟨by omega, fun c hc _ => by rw [o4.2 c (by omega) (by simp), old c (by omega) ⟨by omega, by omega, fun e => by have := (ps.sb c e).1; omega⟩, oB.2 c (by omega) (by simp), oo.2 c hc (by simp)]⟩
   refine rN ?_ (V v5<|wi)
   exact ⟨l.length - (i + 1), by omega, i + 1, R2, Q2, sx2, sr2, rfl, rfl, ⟨by omega, by omega⟩, by exact sT, by exact sT, by exact sT, by exact sT, o9, ps2.keep o4⟩
  have q2 : (wh == Int.ofNat 2) = false := beq_eq_false_iff_ne.2 c2
  by_cases c3 : wh = Int.ofNat 3
  ·have q3 : (wh == Int.ofNat 3) = true:= by rw [c3]; rfl
   repeat' (first | (with_reducible refine stopTomb ?_) | ((with_reducible refine st1 ?_); (conv => whnf); (with_reducible refine ⟨?_⟩)) | ((with_reducible refine retW_intro rfl ?_); (conv => arg 2; whnf)) | ((with_reducible first | refine iB ?_ ?_ | refine gWt ?_ ?_ | refine gWf ?_ ?_) <;> intro hb <;> (try simp only [hb])) | (simp only [B, xB, F, reduceLT, reduceLeDiff, reduceEqDiff, reduceAdd, reduceMul, reduceSub, ↓reduceIte, eq_self, t0, t3, t4, t5, hlen, d1, d2, lt1, p0, p1, p2, p3, p4, p5, ← hAe, uA, kA, mn20, ex_sl_h, hcut, put_sts, ← hBe, a0, q0, q1, q2, q3]))
   refine ⟨tombStep psB (by omega) aB aw (by exact sT) (by exact sT) (by exact sT) ?_⟩
   intro tm2 h3 e R2 Q2 sx2 sr2 y0 y3 y4 y5 y6 y7 y8 xx old ps2
   have z0 : tm2.get 0 = some (.slice b o l.length cap):= by rw [y0]; exact sT
   have z3 : tm2.get 3 = some (.ptr h0.nx 0):= by rw [y3]; exact sT
   have z4 : tm2.get 4 = some (.ptr h1.nx 0):= by rw [y4]; exact sT
   have z5 : tm2.get 5 = some (.int .i64 (.ofNat i)):= by rw [y5]; exact sT
   have z6 : tm2.get 6 = some (.ptr h.nx 0):= by rw [y6]; exact sT
   have a6 := aB.get xx (old h.nx (by omega) aw)
   clear t0 t3 t4 t5 y0 y3 y4 y5 y6
   repeat' (first | (with_reducible refine stopTail ?_) | ((with_reducible refine st1 ?_); (conv => whnf); (with_reducible refine ⟨?_⟩)) | ((with_reducible refine retW_intro rfl ?_); (conv => arg 2; whnf)) | ((with_reducible first | refine iB ?_ ?_ | refine gWt ?_ ?_ | refine gWf ?_ ?_) <;> intro hb <;> (try simp only [hb])) | (simp only [B, xB, F, reduceLT, reduceLeDiff, reduceEqDiff, reduceAdd, reduceMul, reduceSub, ↓reduceIte, eq_self]))
   refine ⟨plyTail ps2 (by omega) a6 hkl ho1 e z3 z4 z6 y7 y8 ?_⟩
   intro tm4 h4 y0 y3 y4 y5 o4
   have v0 : tm4.get 0 = some (.slice b o l.length cap):= by rw [y0, z0]
   have v3 : tm4.get 3 = some (.ptr h0.nx 0):= by rw [y3, z3]
   have v4 : tm4.get 4 = some (.ptr h1.nx 0):= by rw [y4, z4]
   have v5 : tm4.get 5 = some (.int .i64 (.ofNat i)):= by rw [y5, z5]
   clear z0 z3 z4 z5 z6 y0 y3 y4 y5
   have x4 := o4.1
   have xo := oo.1
   have o9 : Only h0 h4 [] := ⟨by omega, fun c hc _ => by rw [o4.2 c (by omega) (by simp), old c (by omega) ⟨by omega, by omega, fun e => by have := (ps.sb c e).1; omega⟩, oB.2 c (by omega) (by simp), oo.2 c hc (by simp)]⟩
   refine rN ?_ (V v5<|wi)
   exact ⟨l.length - (i + 1), by omega, i + 1, R2, Q2, sx2, sr2, rfl, rfl, ⟨by omega, by omega⟩, by exact sT, by exact sT, by exact sT, by exact sT, o9, ps2.keep o4⟩
  have q3 : (wh == Int.ofNat 3) = false := beq_eq_false_iff_ne.2 c3
  by_cases c4 : wh = Int.ofNat 4
  ·have q4 : (wh == Int.ofNat 4) = true:= by rw [c4]; rfl
   have q5 : (wh == Int.ofNat 5) = false:= by rw [c4]; rfl
   obtain ⟨rc, hrc⟩ : ∃ rc : Rc, rc = ⟨(ra, rb), k, [], made, 0, nth, false⟩ := ⟨_, rfl⟩
   obtain ⟨hC, hCe⟩ : ∃ hC, hC = (hB.newCells 39 [.int .u64 (.ofNat 0), .int .u64 (.ofNat 0), .str [], .str [], .int .u64 (.ofNat 0), .int .u64 (.ofNat 0), .int .u64 (.ofNat 0), .bool false]).sts hB.nx 0 [.int .u64 (.ofNat ra), .int .u64 (.ofNat rb), .str k, .str [], .int .u64 (.ofNat made), .int .u64 (.ofNat 0), .int .u64 (.ofNat nth), .bool false] := ⟨_, rfl⟩
   have oBC : Only hB hC []:= by rw [hCe]; exact ((Only.refl _ _).new _ _).sts (.inr (Nat.le_refl _))
   have oC := oB.t oBC
   have xC : hC.nx = hB.nx + 1:= by rw [hCe, nx_sts, nx_new]
   have hcc : ∀ i, i < 8 → cellAt hC hB.nx i = (rcC rc)[i]? := fun i hi => by
    rw [hCe, cellAt_sts (by rw [wrAt_new, if_pos rfl]), if_pos ⟨rfl, Nat.zero_le _, by simpa using hi⟩, hrc, Nat.sub_zero]; rfl
   have aC := aB.keep oBC (by simp)
   have psC := psB.keep oBC
   have aw9 : Away h0.nx h1.nx sx hB.nx := ⟨by omega, by omega, fun e => by have := hsl _ e; omega⟩
   repeat' (first | (with_reducible refine stopRest ?_) | ((with_reducible refine st1 ?_); (conv => whnf); (with_reducible refine ⟨?_⟩)) | ((with_reducible refine retW_intro rfl ?_); (conv => arg 2; whnf)) | ((with_reducible first | refine iB ?_ ?_ | refine gWt ?_ ?_ | refine gWf ?_ ?_) <;> intro hb <;> (try simp only [hb])) | (simp only [B, xB, F, reduceLT, reduceLeDiff, reduceEqDiff, reduceAdd, reduceMul, reduceSub, ↓reduceIte, eq_self, t0, t3, t4, t5, hlen, d1, d2, lt1, p0, p1, p2, p3, p4, p5, ← hAe, uA, kA, mn20, ex_sl_h, hcut, put_sts, ← hBe, a0, q0, q1, q2, q3, q4, q5, a1, a2, a3, a4, a5, ← hCe]))
   refine ⟨restStep psC (by omega) rc hB.nx hcc (by omega) aw9 (by rw [hrc]; exact ho4) (by exact sT) (by exact sT) (by exact sT) ?_⟩
   intro tm2 h3 e R2 Q2 sx2 sr2 y0 y3 y4 y5 y6 y7 y8 xx old ps2
   have z0 : tm2.get 0 = some (.slice b o l.length cap):= by rw [y0]; exact sT
   have z3 : tm2.get 3 = some (.ptr h0.nx 0):= by rw [y3]; exact sT
   have z4 : tm2.get 4 = some (.ptr h1.nx 0):= by rw [y4]; exact sT
   have z5 : tm2.get 5 = some (.int .i64 (.ofNat i)):= by rw [y5]; exact sT
   have z6 : tm2.get 6 = some (.ptr h.nx 0):= by rw [y6]; exact sT
   have a6 := aC.get xx (old h.nx (by omega) aw)
   clear t0 t3 t4 t5 y0 y3 y4 y5 y6
   repeat' (first | (with_reducible refine stopTail ?_) | ((with_reducible refine st1 ?_); (conv => whnf); (with_reducible refine ⟨?_⟩)) | ((with_reducible refine retW_intro rfl ?_); (conv => arg 2; whnf)) | ((with_reducible first | refine iB ?_ ?_ | refine gWt ?_ ?_ | refine gWf ?_ ?_) <;> intro hb <;> (try simp only [hb])) | (simp only [B, xB, F, reduceLT, reduceLeDiff, reduceEqDiff, reduceAdd, reduceMul, reduceSub, ↓reduceIte, eq_self]))
   refine ⟨plyTail ps2 (by omega) a6 hkl ho1 e z3 z4 z6 y7 y8 ?_⟩
   intro tm4 h4 y0 y3 y4 y5 o4
   have v0 : tm4.get 0 = some (.slice b o l.length cap):= by rw [y0, z0]
   have v3 : tm4.get 3 = some (.ptr h0.nx 0):= by rw [y3, z3]
   have v4 : tm4.get 4 = some (.ptr h1.nx 0):= by rw [y4, z4]
   have v5 : tm4.get 5 = some (.int .i64 (.ofNat i)):= by rw [y5, z5]
   clear z0 z3 z4 z5 z6 y0 y3 y4 y5
   have x4 := o4.1
   have xo := oo.1
   have o9 : Only h0 h4 [] := ⟨by omega, fun c hc _ => by rw [o4.2 c (by omega) (by simp), old c (by omega) ⟨by omega, by omega, fun e => by have := (ps.sb c e).1; omega⟩, oC.2 c (by omega) (by simp), oo.2 c hc (by simp)]⟩
   refine rN ?_ (V v5<|wi)
   exact ⟨l.length - (i + 1), by omega, i + 1, R2, Q2, sx2, sr2, rfl, rfl, ⟨by omega, by omega⟩, by exact sT, by exact sT, by exact sT, by exact sT, o9, ps2.keep o4⟩
  have q4 : (wh == Int.ofNat 4) = false := beq_eq_false_iff_ne.2 c4
  by_cases c5 : wh = Int.ofNat 5
  ·have q5 : (wh == Int.ofNat 5) = true:= by rw [c5]; rfl
   obtain ⟨rc, hrc⟩ : ∃ rc : Rc, rc = ⟨(ra, rb), k, [], made, 0, nth, true⟩ := ⟨_, rfl⟩
   obtain ⟨hC, hCe⟩ : ∃ hC, hC = (hB.newCells 39 [.int .u64 (.ofNat 0), .int .u64 (.ofNat 0), .str [], .str [], .int .u64 (.ofNat 0), .int .u64 (.ofNat 0), .int .u64 (.ofNat 0), .bool false]).sts hB.nx 0 [.int .u64 (.ofNat ra), .int .u64 (.ofNat rb), .str k, .str [], .int .u64 (.ofNat made), .int .u64 (.ofNat 0), .int .u64 (.ofNat nth), .bool true] := ⟨_, rfl⟩
   have oBC : Only hB hC []:= by rw [hCe]; exact ((Only.refl _ _).new _ _).sts (.inr (Nat.le_refl _))
   have oC := oB.t oBC
   have xC : hC.nx = hB.nx + 1:= by rw [hCe, nx_sts, nx_new]
   have hcc : ∀ i, i < 8 → cellAt hC hB.nx i = (rcC rc)[i]? := fun i hi => by
    rw [hCe, cellAt_sts (by rw [wrAt_new, if_pos rfl]), if_pos ⟨rfl, Nat.zero_le _, by simpa using hi⟩, hrc, Nat.sub_zero]; rfl
   have aC := aB.keep oBC (by simp)
   have psC := psB.keep oBC
   have aw9 : Away h0.nx h1.nx sx hB.nx := ⟨by omega, by omega, fun e => by have := hsl _ e; omega⟩
   repeat' (first | (with_reducible refine stopRest ?_) | ((with_reducible refine st1 ?_); (conv => whnf); (with_reducible refine ⟨?_⟩)) | ((with_reducible refine retW_intro rfl ?_); (conv => arg 2; whnf)) | ((with_reducible first | refine iB ?_ ?_ | refine gWt ?_ ?_ | refine gWf ?_ ?_) <;> intro hb <;> (try simp only [hb])) | (simp only [B, xB, F, reduceLT, reduceLeDiff, reduceEqDiff, reduceAdd, reduceMul, reduceSub, ↓reduceIte, eq_self, t0, t3, t4, t5, hlen, d1, d2, lt1, p0, p1, p2, p3, p4, p5, ← hAe, uA, kA, mn20, ex_sl_h, hcut, put_sts, ← hBe, a0, q0, q1, q2, q3, q4, q5, q5, a1, a2, a3, a4, a5, ← hCe]))
   refine ⟨restStep psC (by omega) rc hB.nx hcc (by omega) aw9 (by rw [hrc]; exact ho4) (by exact sT) (by exact sT) (by exact sT) ?_⟩
   intro tm2 h3 e R2 Q2 sx2 sr2 y0 y3 y4 y5 y6 y7 y8 xx old ps2
   have z0 : tm2.get 0 = some (.slice b o l.length cap):= by rw [y0]; exact sT
   have z3 : tm2.get 3 = some (.ptr h0.nx 0):= by rw [y3]; exact sT
   have z4 : tm2.get 4 = some (.ptr h1.nx 0):= by rw [y4]; exact sT
   have z5 : tm2.get 5 = some (.int .i64 (.ofNat i)):= by rw [y5]; exact sT
   have z6 : tm2.get 6 = some (.ptr h.nx 0):= by rw [y6]; exact sT
   have a6 := aC.get xx (old h.nx (by omega) aw)
   clear t0 t3 t4 t5 y0 y3 y4 y5 y6
   repeat' (first | (with_reducible refine stopTail ?_) | ((with_reducible refine st1 ?_); (conv => whnf); (with_reducible refine ⟨?_⟩)) | ((with_reducible refine retW_intro rfl ?_); (conv => arg 2; whnf)) | ((with_reducible first | refine iB ?_ ?_ | refine gWt ?_ ?_ | refine gWf ?_ ?_) <;> intro hb <;> (try simp only [hb])) | (simp only [B, xB, F, reduceLT, reduceLeDiff, reduceEqDiff, reduceAdd, reduceMul, reduceSub, ↓reduceIte, eq_self]))
   refine ⟨plyTail ps2 (by omega) a6 hkl ho1 e z3 z4 z6 y7 y8 ?_⟩
   intro tm4 h4 y0 y3 y4 y5 o4
   have v0 : tm4.get 0 = some (.slice b o l.length cap):= by rw [y0, z0]
   have v3 : tm4.get 3 = some (.ptr h0.nx 0):= by rw [y3, z3]
   have v4 : tm4.get 4 = some (.ptr h1.nx 0):= by rw [y4, z4]
   have v5 : tm4.get 5 = some (.int .i64 (.ofNat i)):= by rw [y5, z5]
   clear z0 z3 z4 z5 z6 y0 y3 y4 y5
   have x4 := o4.1
   have xo := oo.1
   have o9 : Only h0 h4 [] := ⟨by omega, fun c hc _ => by rw [o4.2 c (by omega) (by simp), old c (by omega) ⟨by omega, by omega, fun e => by have := (ps.sb c e).1; omega⟩, oC.2 c (by omega) (by simp), oo.2 c hc (by simp)]⟩
   refine rN ?_ (V v5<|wi)
   exact ⟨l.length - (i + 1), by omega, i + 1, R2, Q2, sx2, sr2, rfl, rfl, ⟨by omega, by omega⟩, by exact sT, by exact sT, by exact sT, by exact sT, o9, ps2.keep o4⟩
  have q5 : (wh == Int.ofNat 5) = false := beq_eq_false_iff_ne.2 c5
  repeat' (first | (with_reducible refine stopComp ?_) | ((with_reducible refine st1 ?_); (conv => whnf); (with_reducible refine ⟨?_⟩)) | ((with_reducible refine retW_intro rfl ?_); (conv => arg 2; whnf)) | ((with_reducible first | refine iB ?_ ?_ | refine gWt ?_ ?_ | refine gWf ?_ ?_) <;> intro hb <;> (try simp only [hb])) | (simp only [B, xB, F, reduceLT, reduceLeDiff, reduceEqDiff, reduceAdd, reduceMul, reduceSub, ↓reduceIte, eq_self, t0, t3, t4, t5, hlen, d1, d2, lt1, p0, p1, p2, p3, p4, p5, ← hAe, uA, kA, mn20, ex_sl_h, hcut, put_sts, ← hBe, a0, q0, q1, q2, q3, q4, q5]))
  refine ⟨compStep psB (by omega) aB aw (by exact sT) (by exact sT) (by exact sT) (by exact sT) (by exact sT) ?_⟩
  intro tm2 h3 e R2 Q2 sx2 sr2 y0 y3 y4 y5 y6 y7 y8 xx old ps2
  have z0 : tm2.get 0 = some (.slice b o l.length cap):= by rw [y0]; exact sT
  have z3 : tm2.get 3 = some (.ptr h0.nx 0):= by rw [y3]; exact sT
  have z4 : tm2.get 4 = some (.ptr h1.nx 0):= by rw [y4]; exact sT
  have z5 : tm2.get 5 = some (.int .i64 (.ofNat i)):= by rw [y5]; exact sT
  have z6 : tm2.get 6 = some (.ptr h.nx 0):= by rw [y6]; exact sT
  have a6 := aB.get xx (old h.nx (by omega) aw)
  clear t0 t3 t4 t5 y0 y3 y4 y5 y6
  repeat' (first | (with_reducible refine stopTail ?_) | ((with_reducible refine st1 ?_); (conv => whnf); (with_reducible refine ⟨?_⟩)) | ((with_reducible refine retW_intro rfl ?_); (conv => arg 2; whnf)) | ((with_reducible first | refine iB ?_ ?_ | refine gWt ?_ ?_ | refine gWf ?_ ?_) <;> intro hb <;> (try simp only [hb])) | (simp only [B, xB, F, reduceLT, reduceLeDiff, reduceEqDiff, reduceAdd, reduceMul, reduceSub, ↓reduceIte, eq_self]))
  refine ⟨plyTail ps2 (by omega) a6 hkl ho1 e z3 z4 z6 y7 y8 ?_⟩
  intro tm4 h4 y0 y3 y4 y5 o4
  have v0 : tm4.get 0 = some (.slice b o l.length cap):= by rw [y0, z0]
  have v3 : tm4.get 3 = some (.ptr h0.nx 0):= by rw [y3, z3]
  have v4 : tm4.get 4 = some (.ptr h1.nx 0):= by rw [y4, z4]
  have v5 : tm4.get 5 = some (.int .i64 (.ofNat i)):= by rw [y5, z5]
  clear z0 z3 z4 z5 z6 y0 y3 y4 y5
  have x4 := o4.1
  have xo := oo.1
  have o9 : Only h0 h4 [] := ⟨by omega, fun c hc _ => by rw [o4.2 c (by omega) (by simp), old c (by omega) ⟨by omega, by omega, fun e => by have := (ps.sb c e).1; omega⟩, oB.2 c (by omega) (by simp), oo.2 c hc (by simp)]⟩
  refine rN ?_ (V v5<|wi)
  exact ⟨l.length - (i + 1), by omega, i + 1, R2, Q2, sx2, sr2, rfl, rfl, ⟨by omega, by omega⟩, by exact sT, by exact sT, by exact sT, by exact sT, o9, ps2.keep o4⟩
 ·by_cases hi1 : i < l.length
  ·have d1 : decide (i < l.length) = true := decide_eq_true hi1
   have d2 : decide (i < 60) = false := decide_eq_false (fun e => hi ⟨hi1, e⟩)
   refine rN ?_ (V t0<|V t3<|V t4<|V t5<|V hlen<|V hvo<|V d1<|d2)
   refine worksC _ ?_
   refine rN0 ?_
   rfl
  ·have d1 : decide (i < l.length) = false := decide_eq_false hi1
   refine rN ?_ (V t0<|V t3<|V t4<|V t5<|V hlen<|V hvo<|d1)
   refine worksC _ ?_
   refine rN0 ?_
   rfl
end
end Go.Proofs.YtlkngpckibidlaaGreat.X

namespace Go.Proofs.YtlkngpckibidlaaGreat.X
open Go Go.AX
noncomputable section
set_option maxRecDepth 100000
theorem u33t : P.underlying 33 = some (.struct (fieldsOf P 33)):= by kernel_rfl
theorem u31t : P.underlying 31 = some (.struct (fieldsOf P 31)):= by kernel_rfl
theorem u29t : P.underlying 29 = some (.int .u64):= by kernel_rfl
theorem u3t : P.underlying 3 = some (.int .i64):= by kernel_rfl
theorem u22t : P.underlying 22 = some (.slice 33):= by kernel_rfl
structure ActB where
 wh : Int
 key : ByteArray
 a : Nat
 b : Nat
 made : Nat
 nth : Nat
def ActB.n (x : ActB) : ActN := ⟨x.wh, bytesOf x.key, x.a, x.b, x.made, x.nth⟩
def ActB.ok (x : ActB) : Prop := x.n.ok
def ActB.cs (x : ActB) : List (Value × AV) := [(.int .i64 x.wh, .int .i64 x.wh), (.string x.key, .str (bytesOf x.key)), (.int .u64 (.ofNat x.a), .int .u64 (.ofNat x.a)), (.int .u64 (.ofNat x.b), .int .u64 (.ofNat x.b)), (.int .u64 (.ofNat x.made), .int .u64 (.ofNat x.made)), (.int .u64 (.ofNat x.nth), .int .u64 (.ofNat x.nth))]
theorem ActB.abs (y : ActB) (p : Value × AV) (n : Nat) (h : p ∈ y.cs) : absV n p.1 = some p.2 := by
 unfold ActB.cs at h
 simp only [List.mem_cons, List.mem_nil_iff, or_false] at h
 rcases h with rfl | rfl | rfl | rfl | rfl | rfl <;> rfl
theorem revT_dec {K : Type} {enc : TypeId × Value → K} {w : World} {b : Nat} {sp : Nat → Bool} {hd : Bool} (n : Nat) (cs : List Value) (x : DataW K × List MemPlace) (h : DataW.trod enc P w b sp hd n 31 cs = some x) :
  ∃ m s : Nat, m < 18446744073709551616 ∧ s < 18446744073709551616 ∧ cs = [.int .u64 (.ofNat m), .int .u64 (.ofNat s)] := by
 obtain ⟨hl, n0, y0, h0⟩ := trod_field (i := 0) (ty := 29) (off := 0) u31t (by kernel_rfl) h
 obtain ⟨_, n1, y1, h1⟩ := trod_field (i := 1) (ty := 29) (off := 1) u31t (by kernel_rfl) h
 rw [show P.cellsOf 29 = 1 by kernel_rfl] at h0 h1
 rw [show P.cellsOf 31 = 2 by kernel_rfl] at hl
 obtain ⟨m, e0, hm⟩ := trod_nat (k := .u64) rfl u29t h0
 obtain ⟨s, e1, hs⟩ := trod_nat (k := .u64) rfl u29t h1
 match cs, hl with
 | [c0, c1], _ =>
  simp at e0 e1
  exact ⟨m, s, hm, hs, by rw [e0, e1]; rfl⟩
theorem act_dec {K : Type} {enc : TypeId × Value → K} {w : World} {b : Nat} {sp : Nat → Bool} {hd : Bool} (n : Nat) (cs : List Value) (x : DataW K × List MemPlace) (h : DataW.trod enc P w b sp hd n 33 cs = some x) : ∃ a : ActB, a.ok ∧ cs = a.cs.map (·.1) := by
 obtain ⟨hl, n0, y0, h0⟩ := trod_field (i := 0) (ty := 3) (off := 0) u33t (by kernel_rfl) h
 obtain ⟨_, n1, y1, h1⟩ := trod_field (i := 1) (ty := 9) (off := 1) u33t (by kernel_rfl) h
 obtain ⟨_, n2, y2, h2⟩ := trod_field (i := 2) (ty := 31) (off := 2) u33t (by kernel_rfl) h
 obtain ⟨_, n3, y3, h3⟩ := trod_field (i := 3) (ty := 29) (off := 4) u33t (by kernel_rfl) h
 obtain ⟨_, n4, y4, h4⟩ := trod_field (i := 4) (ty := 29) (off := 5) u33t (by kernel_rfl) h
 rw [show P.cellsOf 3 = 1 by kernel_rfl] at h0
 rw [show P.cellsOf 9 = 1 by kernel_rfl] at h1
 rw [show P.cellsOf 31 = 2 by kernel_rfl] at h2
 rw [show P.cellsOf 29 = 1 by kernel_rfl] at h3 h4
 rw [show P.cellsOf 33 = 6 by kernel_rfl] at hl
 obtain ⟨wh, e0, _⟩ := DataW.trod_int u3t h0
 obtain ⟨s, e1, _⟩ := DataW.trod_string u9a h1
 obtain ⟨m, q, q1, q2, e2⟩ := revT_dec _ _ _ h2
 obtain ⟨c, e3, q3⟩ := trod_nat (k := .u64) rfl u29t h3
 obtain ⟨d, e4, q4⟩ := trod_nat (k := .u64) rfl u29t h4
 match cs, hl with
 | [c0, c1, c2, c3, c4, c5], _ =>
  simp at e0 e1 e2 e3 e4
  exact ⟨⟨wh, s, m, q, c, d⟩, ⟨q1, q2, q3, q4⟩, by rw [e0, e1, e2.1, e2.2, e3, e4]; rfl⟩
end
end Go.Proofs.YtlkngpckibidlaaGreat.X
namespace Go.Proofs.YtlkngpckibidlaaGreat.indexPlays
open Go.ChangeShapes Go.WideShapes Go.ChangeAt Go.RowKit
theorem own : ownKnob Tryz.prog.godebug = none:= by kernel_rfl
theorem laidOut : laidOutB Tryz.prog = true:= by kernel_rfl
theorem readable : ∀ t, t ∈ [22] → Tryz.prog.readableRec t = true ∧ t < Tryz.prog.types.size := by
 intro t ht
 simp only [List.mem_cons, List.mem_nil_iff, or_false] at ht
 rcases ht with rfl; exact ⟨by kernel_rfl, of_decide_eq_true (by kernel_rfl)⟩
set_option maxRecDepth 100000 in
theorem walk (M : World) (vl : AX.AV) (l : List X.ActN) (cl : Value) (hv : AX.VR (AX.absPhi M.heap.size) vl cl) (sl : AX.SliceAt (AX.absH M) vl l.length (l.flatMap X.acC)) (hl : ∀ x, x ∈ l → x.ok) :
  Calls Tryz.prog 3 #[cl] M fun e w' => e = .returned (.bool true) ∧ Below M.heap.size M w' := by
 have hw := X.playsW (AX.absH M) vl l sl hl
 refine (AX.calls_of_codeW (fn := Tryz.f3) (c := AX.bodyC Tryz.f3) Tryz.func3 rfl hw (AX.absH_rel M) (Nat.le_refl _) (cargs := #[cl]) ⟨hv, trivial⟩).mono ?_
 rintro e1 w' ⟨N', φ', cv', v, h', _, rfl, hq, _, hv', _, hb⟩
 have hq : v = .bool true := hq
 subst hq
 rw [AX.VR_bool] at hv'; subst hv'
 exact ⟨rfl, hb⟩
set_option maxRecDepth 100000 in
theorem lifted (os : Os) (started : os.Started) (H : Type) (enc : TypeId × Value → H) :
  ReturnsInHanded {} Tryz.checked os 3 .any (Rows.indexPlaysSpec.pre6 enc Tryz.prog Tryz.f3 Rows.indexPlaysRow.domain false) (Rows.indexPlaysSpec.post enc Tryz.prog Tryz.f3 false true false false) := by
 refine returnsInHanded_of_change (C := Tryz.checked) own started (by kernel_rfl) Tryz.func3
  (ChangeSpec.witness6 (enc := enc) (C := Tryz.checked) false ⟨#[], #[.slice none 0 0], []⟩ 8 (by kernel_rfl) (by kernel_rfl) (by kernel_rfl) (by kernel_rfl)) ?_
 intro M base args ds gs before hval0 hW hcnd _
 have hW' := hW
 have hlt := hW.lt
 obtain ⟨p, q, hA0, hV, rfl, hfz, hnd⟩ := hW
 have hA : DataW.TrodAll enc Tryz.prog M 0 (fun _ => true) true Tryz.f3.params.toList args.toList ds p := hA0
 rw [Tryz.params3] at hA hval0
 have hA1 := hA
 obtain ⟨v0, vs0, d0, ds0, p0, q0, hargs, rfl, rfl, g0, r0⟩ := trodAll_cons hA
 obtain ⟨rfl, rfl, rfl⟩ := trodAll_nil r0
 obtain rfl : args = #[v0]:= by cases args; simp_all
 obtain ⟨rfl, rfl⟩ := trodVars_none hV
 obtain ⟨vl, l, hv, sl, hl, _⟩ := AX.rows_argV (size := 6) X.u22t (by kernel_rfl) (by omega) X.ActB.cs X.ActB.ok X.ActB.abs (fun n cs x h => X.act_dec n cs x h) (hval0 0 22 v0 rfl rfl) g0
 have sl' : AX.SliceAt (AX.absH M) vl (l.map X.ActB.n).length ((l.map X.ActB.n).flatMap X.acC) := by
  rw [List.length_map, List.flatMap_map]
  exact sl
 simp only [List.append_nil] at hW' hlt
 refine (walk M vl (l.map X.ActB.n) v0 hv sl' (fun x hx => by obtain ⟨y, hy, rfl⟩ := List.mem_map.1 hx; exact hl y hy)).mono fun e1 M' ⟨he, hb⟩ => ?_
 subst he
 exact ⟨_, rfl, _, [], _, [], _, [], hW', trodAll_cons_mk (shut_bool Tryz.underlying4 _) trodAll_mk0, AX.trodAll_below laidOut hb readable hA1 (fun p hp => hlt p (by simpa using hp)) _ (fun p hp => decide_eq_true (hlt p (by simpa using hp))), rfl, hb.frame _, fun h => by cases h⟩
theorem over : Rows.indexPlaysRow.holds Tryz.pinned (OpenSpec.ofChange Rows.indexPlaysSpec) :=
 OpenClaim.holds_of_wide 3 Tryz.f3 rfl rfl rfl rfl rfl rfl rfl ⟨rfl, rfl, rfl, rfl, rfl⟩ rfl rfl rfl rfl rfl (by kernel_rfl) Tryz.func3 (by kernel_rfl)
  (of_decide_eq_true (by kernel_rfl)) (by unfold Func.isWrapper; first | (rw [if_pos (by decide +kernel)]; kernel_rfl) | (rw [if_neg (by decide +kernel)]; exact ⟨rfl, rfl⟩))
  (fun os started H enc _ => lifted os started H enc)
theorem proved : Rows.IndexPlaysSaid := over
#print axioms proved
end Go.Proofs.YtlkngpckibidlaaGreat.indexPlays


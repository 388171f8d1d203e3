/-
  AX: a step in a region whose order is drawn.
-/
import Derived.Test.YtnedigoajoflaaaAxE
import Derived.Maps.RangeRun
import Derived.Test.YtnedigoajoflaaaAxA
import Derived.Sort.KeysCollected
import Derived.Lib.MakeNoZero
import Derived.Lib.Repeat
set_option linter.unusedSimpArgs false
set_option linter.unusedVariables false
namespace Go.AX
open Go.RowKit
section
variable {P : Program} {K : Hook} {N : NN} {φ : Phi} {w0 w : World} {bot : List Frame} {s s' : S} {fr : Frame} {cs : List Frame}
def GoesN (P : Program) (N : NN) (w0 : World) (bot : List Frame) (φ : Phi) (fr : Frame) (cs : List Frame) (w : World) (s' : S) : Prop :=
  ∃ N' : NN, ∃ φ' fr' cs' w', N'.n = N.n ∧ φ.le φ' ∧ Steps P (lone fr (cs ++ bot) w) (lone fr' (cs' ++ bot) w') ∧ SR N' w0 φ' s' fr' cs' w'
theorem Goes.n (h : Goes P N w0 bot φ fr cs w s') : GoesN P N w0 bot φ fr cs w s' :=
  let ⟨φ', fr', cs', w', a, b, c⟩ := h; ⟨N, φ', fr', cs', w', rfl, a, b, c⟩
theorem m_draw {fn : FuncId} {tmps : Array Value} {k : List Item} {ds : List Deferred} {kd : CallKind} {ro : Option Nat} {cs : List Frame} (hm : P.follows .mixedOrders = true) {id : Nat} {ops : Array Oper} :
    ∃ t, Steps P (lone ⟨fn, tmps, .code (.region id ops true) :: k, ds, .run, kd, ro⟩ cs w) (lone ⟨fn, tmps, .inRegion ops (Region.linearise .any ops t) :: k, ds, .run, kd, ro⟩ cs { w with drawn := w.drawn + 1 }) :=
  ⟨w.tape w.drawn (.order fn id), st (by simp [stepG, stepG.exec, choose, Sem.run, Question.forced, Question.cut, Region.schedule, hm])⟩
theorem earlyOk_mem {nt : Nat} {tm : T AV} {h : H} {ops : Array Oper} : ∀ {l : List (Nat × Oper × Nat)}, earlyOk P nt tm h ops l = true → ∀ p, p ∈ l → readOk P nt tm h ops p.2.1 p.2.2 = true
  | [], _, p, hp => by cases hp
  | (j, o, b) :: l, h, p, hp => by
    simp only [earlyOk] at h
    split at h
    · rename_i hr
      simp only [List.mem_cons] at hp
      rcases hp with rfl | hp
      · exact hr
      · exact earlyOk_mem h p hp
    · cases h
theorem below_n {N N' : NN} {a b : World} (e : N'.n = N.n) (h : Below N'.n a b) : Below N.n a b := by rw [← e]; exact h
theorem lag_run {d : Draw} {nt : Nat} {tm : T AV} {h : H} {fn : FuncId} {ck : List Item} {ds : List Deferred} {kd : CallKind} {ro : Option Nat} {acs : List AFrame} (hw : d.wait = false) (hok : earlyOk P nt tm h d.ops d.early = true) :
    ∀ (pre rest : List Nat) (N : NN) (φ : Phi) (tmps : Array Value) (w : World), DW d (pre ++ rest) → (∀ i, i ∈ pre → ∀ p, p ∈ d.rem → p.1 ≠ i) → TX φ d.ops (pre ++ rest) nt tm tmps → HR N φ h w → N.n ≤ w.heap.size →
      LagR N acs.length d (pre ++ rest) → CS N φ acs cs →
      ∃ N' : NN, ∃ φ' tmps' w', N'.n = N.n ∧ φ.le φ' ∧ Steps P (lone ⟨fn, tmps, .inRegion d.ops (pre ++ rest) :: ck, ds, .run, kd, ro⟩ (cs ++ bot) w) (lone ⟨fn, tmps', .inRegion d.ops rest :: ck, ds, .run, kd, ro⟩ (cs ++ bot) w') ∧
        DW d rest ∧ TX φ' d.ops rest nt tm tmps' ∧ HR N' φ' h w' ∧ Below N.n w w' ∧ N'.n ≤ w'.heap.size ∧ LagR N' acs.length d rest ∧ CS N' φ' acs cs
  | [], rest, N, φ, tmps, w, hdw, _, tx, hr, hN, hl, hc => ⟨N, φ, tmps, w, rfl, φ.le_refl, Steps.refl P _, hdw, tx, hr, Below.refl _ _, hN, hl, hc⟩
  | i :: pre, rest, N, φ, tmps, w, hdw, hp, tx, hr, hN, hl, hc => by
    have hall := hdw.all i (by simp)
    rcases hall with ⟨o, ho⟩ | ⟨o, b, ho⟩
    · exact absurd rfl (hp i (by simp) _ ho)
    · have hi := hdw.early _ ho
      obtain ⟨N1, φ1, tmps1, w1, k1, l1, s1, tx1, hr1, b1, n1⟩ := lag_one (P := P) (fn := fn) (ck := ck) (ds := ds) (kd := kd) (ro := ro) (cs := cs ++ bot) (k := acs.length) (rest := pre ++ rest) hdw hi tx hr hN (earlyOk_mem hok _ ho) (fun ha => hl _ ho (by simp) ha)
      obtain ⟨k1, k2⟩ := k1
      have hnd := hdw.tail.2.2
      have hl1 : LagR N1 acs.length d (pre ++ rest) := fun p h1 h2 h3 => k2 _ _ _ (fun e => hnd (by rw [← e.2]; exact h2)) (hl p h1 (List.mem_cons_of_mem _ h2) h3)
      have hc1 : CS N1 φ1 acs cs := (hc.le l1).res (k := acs.length) (fun b j q hj hb => k2 b j q (fun e => by omega) hb) (Nat.le_refl _)
      obtain ⟨N2, φ2, tmps2, w2, e2, l2, s2, dw2, tx2, hr2, b2, n2, lr2, c2⟩ := lag_run hw hok pre rest N1 φ1 tmps1 w1 (hdw.lag hw (hp i (by simp))) (fun j hj => hp j (by simp [hj])) tx1 hr1 n1 hl1 hc1
      exact ⟨N2, φ2, tmps2, w2, e2.trans k1, Phi.le_trans l1 l2, Steps.trans s1 s2, dw2, tx2, hr2, b1.trans (below_n k1 (by rw [k1]; rw [k1] at b2; exact b2)), n2, lr2, c2⟩
def NN.more (N : NN) (b k i : Nat) : NN := { n := N.n, res := fun x => if x = b then some (k, i) else N.res x }
theorem OR.more {L : Loc} {b k i : Nat} : ∀ {ob : AObj}, OR φ N L w ob → OR φ (N.more b k i) L w ob
  | .cells .., x => x
  | .map .., x => x
  | .romap .., x => x
  | .strIter .., x => x
  | .mapIter .., x => x
  | .loop _, x => x
  | .deferred _, x => x
theorem HR.reserve {h : H} (hr : HR N φ h w) (ob : AObj) (k i : Nat) : HR (N.more h.nx k i) φ (h.alloc ob) w := by
  refine ⟨fun x ox hx hn => ?_, fun x ox y oy L1 L2 hx hy h1 h2 e => ?_, fun x hx => hr.lt x (by have : h.nx + 1 ≤ x := hx; omega), fun x hx => ?_, hr.glob⟩
  · have q : x ≠ h.nx := by intro e; subst e; simp [NN.more] at hn
    have hn' : N.res x = none := by simpa [NN.more, q] using hn
    simp only [H.alloc, T.get_set, if_neg q] at hx
    obtain ⟨L, g1, g2⟩ := hr.obj x ox hx hn'
    exact ⟨L, g1, g2.more⟩
  · have q : x ≠ h.nx := by intro e; subst e; rw [hr.lt _ (Nat.le_refl _)] at h1; cases h1
    have r : y ≠ h.nx := by intro e; subst e; rw [hr.lt _ (Nat.le_refl _)] at h2; cases h2
    simp only [H.alloc, T.get_set, if_neg q] at hx
    simp only [H.alloc, T.get_set, if_neg r] at hy
    exact hr.inj x ox y oy L1 L2 hx hy h1 h2 e
  · by_cases q : x = h.nx
    · subst q; exact ⟨hr.lt _ (Nat.le_refl _), Nat.lt_succ_self _⟩
    · have hx' : N.res x ≠ none := by simpa [NN.more, q] using hx
      obtain ⟨a, b⟩ := hr.res x hx'
      exact ⟨a, Nat.lt_succ_of_lt b⟩
theorem TX.ahead {ops : Array Oper} {idx : List Nat} {i : Nat} {o : Oper} {a : AFrame} {tmps : Array Value} (tx : TX φ ops idx a.nt a.tm tmps) (hi : ops[i]? = some o) (hm : i ∈ idx) (hE : soon o = true) (v : AV) :
    TX φ ops idx a.nt (a.putD o.dst v) tmps := by
  obtain ⟨h1, h2⟩ := tx
  refine ⟨h1, fun t ht => ?_⟩
  have hne := ht i hm (by unfold isE; rw [hi]; exact hE)
  rw [dstOf_eq hi] at hne
  unfold AFrame.putD
  split
  · rename_i dd hd
    split
    · rw [T.get_set, if_neg (fun e => hne (by rw [e]; exact hd))]; exact h2 t ht
    · exact h2 t ht
  · exact h2 t ht
theorem execA_defer {tm : T AV} {h : H} {c : Call} : (∃ d h', execA P tm h (.defer c) = .defer d h') ∨ execA P tm h (.defer c) = .fail := by
  obtain ⟨callee, args, ats⟩ := c
  unfold execA
  cases callee with
  | value f =>
    simp only
    split
    · split
      · exact .inl ⟨_, _, rfl⟩
      · exact .inr rfl
    · exact .inr rfl
  | builtin b => exact .inr rfl
  | invoke r m => exact .inr rfl
theorem sim_draw (hK : HookOk P K) {d : Draw} (hs : SR N w0 φ s fr cs w) (hd : s.fr.dr = some d) (hm : s.fr.mode = .run) (h : stepD P K s d = some s') : GoesN P N w0 bot φ fr cs w s' := by
  obtain ⟨hF, hcs, hh, hb, hN⟩ := hs
  obtain ⟨idx, ck, hx⟩ := hF.und hd
  obtain ⟨g1, g2, g3, g4, g5, g6, g7, g8, g9, g10⟩ := hx
  have g8' := g8
  rw [hm] at g8'; simp only [MR] at g8'
  unfold stepD at h
  split at h
  · cases h
  · rename_i hw
    split at h
    · -- the region ends
      rename_i hrem
      split at h
      · rename_i hok
        cases h
        obtain ⟨cfn, ctmps, ctodo, cds, cmode, ckind, cro⟩ := fr
        simp only at g1 g2 g3 g7 g8' g9 g10; subst g2; subst g8'
        have hrun := lag_run (P := P) (bot := bot) (fn := cfn) (ck := ck) (ds := cds) (kd := ckind) (ro := cro) (acs := s.cs) hw hok idx [] N φ ctmps w (by rw [List.append_nil]; exact g5) (fun i _ p hp => by rw [hrem] at hp; cases hp) (by rw [List.append_nil]; exact g3) hh hN (by rw [List.append_nil]; exact g6) hcs
        rw [List.append_nil] at hrun
        obtain ⟨N', φ', tmps', w', e1, l1, s1, dw1, tx1, hr1, b1, n1, lr1, c1⟩ := hrun
        refine ⟨N', φ', _, cs, w', e1, l1, Steps.trans s1 m_regionEnd, ⟨.mk rfl ⟨g1, ⟨tx1.1, fun t => tx1.2 t (fun j hj _ => by cases hj)⟩, g4.mono fun _ _ => IR.le l1, g7.mono fun _ _ => DR.le l1, ?_, g9, g10.le l1⟩, c1, hr1, ?_, n1⟩⟩
        · exact g8.le l1
        · rw [e1]; exact hb.trans b1
      · cases h
    · rename_i i o rem hrem
      have hi := (g5.rem (i, o) (by rw [hrem]; simp)).2
      have him := (g5.rem (i, o) (by rw [hrem]; simp)).1
      split at h
      · -- a block that is laid by
        rename_i hal
        split at h
        · rename_i t l hl
          cases h
          have hlt : ∀ b q, N.res b = some q → b ≠ s.h.nx := fun b q hb e => by
            have := (hh.res b (by rw [hb]; simp)).2; omega
          refine ⟨N.more s.h.nx s.cs.length i, φ, fr, cs, w, rfl, φ.le_refl, Steps.refl P _, ⟨.mkd (d := { d with rem, early := (i, o, s.h.nx) :: d.early }) rfl (idx := idx) (ck := ck) ⟨g1, g2, g3.ahead hi him (by unfold soon; rw [hal]; simp) _, g4, g5.read hw hrem _, ?_, g7, g8, g9, g10⟩, ?_, hh.reserve _ _ _, hb, hN⟩⟩
          · intro p hp hpi hpa
            simp only [List.mem_cons] at hp
            rcases hp with rfl | hp
            · simp [NN.more]
            · have := g6 p hp hpi hpa
              simp [NN.more, hlt _ _ this, this]
          · exact hcs.res (k := s.cs.length) (fun b j q _ hb => by simp [NN.more, hlt _ _ hb, hb]) (Nat.le_refl _)
        · cases h
      · rename_i hal
        split at h
        · -- a read
          rename_i v hv
          cases h
          refine ⟨N, φ, fr, cs, w, rfl, φ.le_refl, Steps.refl P _, ⟨.mkd (d := { d with rem, early := (i, o, 0) :: d.early }) rfl (idx := idx) (ck := ck) ⟨g1, g2, g3.ahead hi him (readVal_spec hv).2.2.1 _, g4, g5.read hw hrem _, ?_, g7, g8, g9, g10⟩, hcs, hh, hb, hN⟩⟩
          intro p hp hpi hpa
          simp only [List.mem_cons] at hp
          rcases hp with rfl | hp
          · unfold isLay at hpa
            rw [hal, Bool.false_or] at hpa
            obtain ⟨-, -, q1, q2⟩ := isFl_facts hpa
            unfold readVal at hv
            rw [q1, q2] at hv
            cases hv
          · exact g6 p hp hpi hpa
        split at h
        · cases h
        split at h
        · -- a row that is laid by
          rename_i hfl
          rw [Bool.and_eq_true] at hfl
          split at h
          · split at h
            · rename_i t l n hl
              cases h
              have hlt : ∀ b q, N.res b = some q → b ≠ s.h.nx := fun b q hb e => by
                have := (hh.res b (by rw [hb]; simp)).2; omega
              refine ⟨N.more s.h.nx s.cs.length i, φ, fr, cs, w, rfl, φ.le_refl, Steps.refl P _, ⟨.mkd (d := { d with rem, early := (i, o, s.h.nx) :: d.early }) rfl (idx := idx) (ck := ck) ⟨g1, g2, g3.ahead hi him (by unfold soon; rw [hfl.1]; simp) _, g4, g5.read hw hrem _, ?_, g7, g8, g9, g10⟩, ?_, hh.reserve _ _ _, hb, hN⟩⟩
              · intro p hp hpi hpa
                simp only [List.mem_cons] at hp
                rcases hp with rfl | hp
                · simp [NN.more]
                · have := g6 p hp hpi hpa
                  simp [NN.more, hlt _ _ this, this]
              · exact hcs.res (k := s.cs.length) (fun b j q _ hb => by simp [NN.more, hlt _ _ hb, hb]) (Nat.le_refl _)
            · cases h
          · cases h
        split at h
        · rename_i hch hok
          obtain ⟨pre, post, rfl⟩ := List.append_of_mem him
          have hnd := g5.nodup
          rw [List.nodup_append] at hnd
          have hcm := chain_mem g5 rfl hch (fun b hb => by simp only [List.mem_singleton] at hb; subst hb; simp) (fun p hp => by rw [hrem]; simp [hp])
          have hpre : ∀ j, j ∈ pre → ∀ p, p ∈ d.rem → p.1 ≠ j := by
            intro j hj p hp e
            rw [hrem, List.mem_cons] at hp
            rcases hp with rfl | hp
            · exact hnd.2.2 j hj i (by simp) e.symm
            · exact hnd.2.2 j hj p.1 (by simp [(hcm p hp).1]) e.symm
          obtain ⟨cfn, ctmps, ctodo, cds, cmode, ckind, cro⟩ := fr
          simp only at g1 g2 g3 g7 g8' g9 g10; subst g2; subst g8'
          obtain ⟨N1, φ1, tmps1, w1, e1, l1, s1, dw1, tx1, hr1, b1, n1, lr1, c1⟩ := lag_run (P := P) (bot := bot) (fn := cfn) (ck := ck) (ds := cds) (kd := ckind) (ro := cro) (acs := s.cs) hw hok pre (i :: post) N φ ctmps w g5 hpre g3 hh hN g6 hcs
          obtain ⟨x1, x2⟩ := execD_rel (P := P) (o := o) hr1 n1 tx1 (dw1.free hi)
          have hne : ∀ p, p ∈ rem → p.1 ≠ i := fun p hp => (hcm p hp).2
          have hb1 : Below N1.n w0 w1 := by rw [e1]; exact hb.trans b1
          have hdw := dw1.write hw hrem hne
          have hwa := dw1.waits hrem hne
          have hlag : ∀ {N2 : NN}, N2 = N1 → LagR N2 s.cs.length { d with rem, early := dropF (edgesOf o.after.toList) d.early } post := fun e p h1 h2 h3 => by
            subst e; exact lr1 p (dropF_sub h1) (by simp [h2]) h3
          have hlagw : LagR N1 s.cs.length { d with rem := (i, o) :: rem, early := dropF (edgesOf o.after.toList) d.early, wait := true } (i :: post) := fun p h1 h2 h3 => lr1 p (dropF_sub h1) h2 h3
          have g8w : MR φ s.fr.mode .run := g8
          have hF1 : ∀ {φ2 : Phi}, φ1.le φ2 → F2 N1 s.cs.length φ2 { s.fr with dr := some { d with rem := (i, o) :: rem, early := dropF (edgesOf o.after.toList) d.early, wait := true } } ⟨cfn, tmps1, .inRegion d.ops (i :: post) :: ck, cds, .run, ckind, cro⟩ := fun l2 =>
            have l := Phi.le_trans l1 l2
            .mkd rfl (idx := i :: post) (ck := ck) ⟨g1, rfl, tx1.le l2, g4.mono fun _ _ => IR.le l, hwa, hlagw, g7.mono fun _ _ => DR.le l, g8w.le l, g9, g10.le l⟩
          unfold execD at h
          split at h
          · rename_i hwant
            rw [x1] at hwant
            generalize hres : execA P (mini s.fr.tm (slotsOf d.ops o)) s.h o.op = r at h x2
            by_cases hdf : ∃ c, o.op = .defer c
            · obtain ⟨c, hc⟩ := hdf
              rw [hc] at hres
              rcases execA_defer (P := P) (tm := mini s.fr.tm (slotsOf d.ops o)) (h := s.h) (c := c) with ⟨dd, hh', e⟩ | e <;> rw [e] at hres <;> subst hres <;> cases h
            have hdef : cro = none ∨ ∀ c, o.op ≠ .defer c := .inr fun c e => hdf ⟨c, e⟩
            cases r with
            | val v h' =>
              obtain ⟨φ2, cv, w2, r1, r2, r3, r4, r5⟩ := x2
              simp only [applyD] at h
              split at h
              · rename_i hdst
                cases h
                have l := Phi.le_trans l1 r3
                refine ⟨N1, φ2, _, cs, w2, e1, l, Steps.trans s1 (m_value hi hwant hdef r1), ⟨.mkd (d := { d with rem, early := dropF (edgesOf o.after.toList) d.early }) rfl (idx := post) (ck := ck) ⟨g1, rfl, ?_, g4.mono fun _ _ => IR.le l, hdw, hlag rfl, g7.mono fun _ _ => DR.le l, g8w.le l, g9, g10.le l⟩, c1.le r3, r4, hb1.trans r5, Nat.le_trans n1 r5.size⟩⟩
                simp only [Frame.finish, hi, Option.bind_some]
                exact (tx1.le r3).done (a := s.fr) hi hdst r2
              · cases h
            | skip h' =>
              obtain ⟨φ2, w2, r1, r3, r4, r5⟩ := x2
              simp only [applyD] at h
              split at h
              · rename_i hdst
                cases h
                have l := Phi.le_trans l1 r3
                refine ⟨N1, φ2, _, cs, w2, e1, l, Steps.trans s1 (m_skipped hi hwant hdef r1), ⟨.mkd (d := { d with rem, early := dropF (edgesOf o.after.toList) d.early }) rfl (idx := post) (ck := ck) ⟨g1, rfl, ?_, g4.mono fun _ _ => IR.le l, hdw, hlag rfl, g7.mono fun _ _ => DR.le l, g8w.le l, g9, g10.le l⟩, c1.le r3, r4, hb1.trans r5, Nat.le_trans n1 r5.size⟩⟩
                simp only [Frame.finish, hi, Option.bind_some]
                exact (tx1.le r3).done (a := s.fr) hi hdst VR_und
              · cases h
            | enter f args h' =>
              obtain ⟨cargs, r1, r2, r3⟩ := x2
              simp only [applyD] at h
              split at h
              · rename_i v h2 hk2
                split at h
                · rename_i hdst
                  cases h
                  obtain ⟨cv, w2, ⟨φ2, cv', q1, r3, q3, r4, r5⟩, hst⟩ := calls_steps (hK.call _ _ _ _ _ hk2 N1 φ1 w1 cargs r3 n1 r2) (fun e w' ⟨_, cv, he, _⟩ => ⟨cv, he⟩) ⟨cfn, tmps1, .inRegion d.ops (i :: post) :: ck, cds, .run, ckind, cro⟩ (cs ++ bot)
                  cases q1
                  have l := Phi.le_trans l1 r3
                  refine ⟨N1, φ2, _, cs, w2, e1, l, Steps.trans s1 (Steps.trans (m_enter hi hwant hdef r1) hst), ⟨.mkd (d := { d with rem, early := dropF (edgesOf o.after.toList) d.early }) rfl (idx := post) (ck := ck) ⟨g1, rfl, ?_, g4.mono fun _ _ => IR.le l, hdw, hlag rfl, g7.mono fun _ _ => DR.le l, g8w.le l, g9, g10.le l⟩, c1.le r3, r4, hb1.trans r5, Nat.le_trans n1 r5.size⟩⟩
                  simp only [Frame.finish, hi, Option.bind_some]
                  exact (tx1.le r3).done (a := s.fr) hi hdst q3
                · cases h
              split at h
              · rename_i fr' hen
                cases h
                exact ⟨N1, φ1, _, _ :: cs, w1, e1, l1, Steps.trans s1 (m_enter hi hwant hdef r1), ⟨.mk (enter_dr hen) (enter_rel r2 hen), ⟨_, _, rfl, hF1 φ1.le_refl, c1⟩, r3, hb1, n1⟩⟩
              · cases h
            | ext f args h' =>
              obtain ⟨cargs, r1, r2, r3⟩ := x2
              simp only [applyD] at h
              split at h
              · rename_i v h2 hk2
                split at h
                · rename_i hdst
                  cases h
                  obtain ⟨φ2, cv, w2, q1, r3', q3, r4, r5⟩ := hK.ext _ _ _ _ _ hk2 N1 φ1 w1 cargs r3 n1 r2
                  rw [q1] at r1
                  have l := Phi.le_trans l1 r3'
                  refine ⟨N1, φ2, _, cs, w2, e1, l, Steps.trans s1 (m_value hi hwant hdef r1), ⟨.mkd (d := { d with rem, early := dropF (edgesOf o.after.toList) d.early }) rfl (idx := post) (ck := ck) ⟨g1, rfl, ?_, g4.mono fun _ _ => IR.le l, hdw, hlag rfl, g7.mono fun _ _ => DR.le l, g8w.le l, g9, g10.le l⟩, c1.le r3', r4, hb1.trans r5, Nat.le_trans n1 r5.size⟩⟩
                  simp only [Frame.finish, hi, Option.bind_some]
                  exact (tx1.le r3').done (a := s.fr) hi hdst q3
                · cases h
              · cases h
            | round lp args h' =>
              obtain ⟨L, cargs, hL, r1, r2, r3⟩ := x2
              simp only [applyD] at h
              split at h
              · rename_i rl hlp
                split at h
                · rename_i tm' hsp
                  cases h
                  obtain ⟨tmps', hy, htr⟩ := yield_run (P := P) r3 hlp hL r2 hsp
                  rw [hy] at r1
                  exact ⟨N1, φ1, _, _ :: cs, w1, e1, l1, Steps.trans s1 (m_round hi hwant hdef r1), ⟨.mk rfl ⟨rfl, htr, ⟨rfl, rfl, rfl, trivial⟩, trivial, rfl, rfl, ⟨L, hL, rfl⟩⟩, ⟨_, _, rfl, hF1 φ1.le_refl, c1⟩, r3, hb1, n1⟩⟩
                · cases h
              · cases h
            | _ => simp only [applyD] at h; cases h
          · rename_i hwant
            rw [x1] at hwant
            simp only [applyD] at h
            split at h
            · rename_i hdst
              cases h
              refine ⟨N1, φ1, _, cs, w1, e1, l1, Steps.trans s1 (m_opSkip (by rw [hi]; simp only [Option.map_some, Option.getD_some]; exact hwant)), ⟨.mkd (d := { d with rem, early := dropF (edgesOf o.after.toList) d.early }) rfl (idx := post) (ck := ck) ⟨g1, rfl, ?_, g4.mono fun _ _ => IR.le l1, hdw, hlag rfl, g7.mono fun _ _ => DR.le l1, g8w.le l1, g9, g10.le l1⟩, c1, hr1, hb1, n1⟩⟩
              simp only [Frame.finish, hi, Option.bind_some]
              exact tx1.done (a := s.fr) hi hdst VR_und
            · cases h
        · cases h
theorem sim_begin {id : Nat} {ops : Array Oper} {k : List AItem} {d : Draw} (hs : SR N w0 φ s fr cs w) (hdr : s.fr.dr = none) (hm : s.fr.mode = .run) (ht : s.fr.todo = .code (.region id ops true) :: k)
    (hmix : P.follows .mixedOrders = true) (hd : drawA ops = some d) (h : some { s with fr := { s.fr with todo := k, dr := some d } } = some s') : GoesN P N w0 bot φ fr cs w s' := by
  obtain ⟨hF, hcs, hh, hb, hN⟩ := hs
  obtain ⟨f1, f2, f3, f4, f5, f6, f7⟩ := hF.un hdr
  have f5' := f5
  rw [hm] at f5'; simp only [MR] at f5'
  rw [ht] at f3
  obtain ⟨ci, ck, hct, hci, hk⟩ := All2.cons_left.1 f3
  simp only [IR] at hci; subst hci
  cases h
  obtain ⟨cfn, ctmps, ctodo, cds, cmode, ckind, cro⟩ := fr
  simp only at hct f5'; subst hct; subst f5'
  obtain ⟨t, hst⟩ := m_draw (P := P) (w := w) (fn := cfn) (tmps := ctmps) (k := ck) (ds := cds) (kd := ckind) (ro := cro) (cs := cs ++ bot) hmix (id := id) (ops := ops)
  obtain ⟨e1, e2, e3, e4⟩ := dw_init hd t
  refine ⟨N, φ, _, cs, _, rfl, φ.le_refl, hst, ⟨.mkd (d := d) rfl (idx := Region.linearise .any ops t) (ck := ck) ⟨f1, by rw [e1], ⟨f2.1, fun i _ => f2.2 i⟩, hk, e4, ?_, f4, f5, f6, f7⟩, hcs, hh.heap_eq rfl, hb.trans ⟨rfl, rfl, rfl, Nat.le_refl _, fun _ _ => rfl⟩, hN⟩⟩
  intro p hp; rw [e3] at hp; cases hp
end
end Go.AX

namespace Go.AX
noncomputable section
open Go.RowKit
def nextL (x : AV) (h : H) : Option (List (AV × H)) :=
  match x with
  | .ptr r 0 => match h.t.get r with
    | some (.mapIter (some m) since seen last) => match mapOf (h.t.get m) with
      | some (es, clock) => match (es.all fun e => Nat.blt e.2.2 since) && Nat.ble since last with
        | true => match es.filter (fun e => notIn seen e.2.2) with
          | [] => some [(.tuple [.bool false], h)]
          | u :: us => some ((u :: us).map fun e => (.tuple [.bool true, e.1, e.2.1], { h with t := h.t.set r (some (.mapIter (some m) since (seen ++ [e.2.2]) clock)) }))
        | false => none
      | _ => none
    | _ => none
  | _ => none
def pickA (tm : T AV) (h : H) (o : Op) : Option (List (AV × H)) :=
  match o with
  | .next x false => match evalA tm x with
    | some v => nextL v h
    | none => none
  | _ => none
section
variable {P : Program} {N : NN} {φ : Phi} {w : World} {h : H}
theorem born_rel : ∀ {es : List (AV × AV × Nat)} {ces : List MapEntry} (since : Nat), All2 (EntR φ) es ces → (es.all fun e => Nat.blt e.2.2 since) = true → ∀ x, x ∈ ces → x.born < since
  | [], ces, _, he, _ => by rw [All2.nil_left] at he; subst he; intro x hx; cases hx
  | e :: es, ces, since, he, ha => by
    obtain ⟨ce, cr, rfl, ⟨h1, h2, h3⟩, hr⟩ := All2.cons_left.1 he
    rw [List.all_cons, Bool.and_eq_true] at ha
    intro x hx
    rcases List.mem_cons.1 hx with rfl | hx
    · rw [h3]; have := Nat.le_of_ble_eq_true ha.1; omega
    · exact born_rel since hr ha.2 x hx
theorem All2.mem_right {α β : Type} {R : α → β → Prop} : ∀ {l : List α} {m : List β}, All2 R l m → ∀ y, y ∈ m → ∃ x, x ∈ l ∧ R x y
  | [], m, ha, y, hy => by rw [All2.nil_left] at ha; subst ha; cases hy
  | a :: l, m, ha, y, hy => by
    obtain ⟨b, r, rfl, hab, hr⟩ := All2.cons_left.1 ha
    rcases List.mem_cons.1 hy with rfl | hy
    · exact ⟨a, by simp, hab⟩
    · obtain ⟨x, hx, hR⟩ := All2.mem_right hr y hy
      exact ⟨x, by simp [hx], hR⟩
theorem nextL_rel (hr : HR N φ h w) {t : TypeId} {x : AV} {cx : Value} (hx : VR φ x cx) {L : List (AV × H)} (hu : nextL x h = some L) :
    ∃ y, y ∈ L ∧ VOk P N φ w (Instr.next cx false t) y.1 y.2 := by
  unfold nextL at hu
  split at hu
  · rename_i r
    simp only [VR_ptr] at hx; obtain ⟨La, hL, rfl⟩ := hx
    split at hu
    · rename_i m since seen last hb
      split at hu
      · rename_i es clock hm
        split at hu
        · rename_i hc
          rw [Bool.and_eq_true] at hc
          obtain ⟨⟨hN, hb0⟩, m', g1, M, hM, rfl⟩ := hr.get hb hL
          obtain ⟨ces, g3, g4⟩ := hr.mapOf hm hM
          have hold := born_rel since g4 hc.1
          have hsc : since ≤ last := Nat.le_of_ble_eq_true hc.2
          have hfil := filter_rel seen es ces.toList g4
          have hfa : (leftOf ces seen.toArray).toList = ces.toList.filter fun e => !seen.toArray.contains e.born := by unfold leftOf; simp
          rw [← hfa] at hfil
          rcases run_next_at (P := P) w t La.B M.B since last seen.toArray ces clock g1 g3 hold hsc with ⟨q1, q2⟩ | ⟨e, he, w1, q3, q4⟩
          · have hnil : es.filter (fun e => notIn seen e.2.2) = [] := by
              have h0 : (leftOf ces seen.toArray).toList = [] := by rw [← List.length_eq_zero_iff, Array.length_toList]; exact q1
              rw [h0] at hfil
              generalize es.filter (fun e => notIn seen e.2.2) = l at hfil
              cases l with
              | nil => rfl
              | cons a l =>
                obtain ⟨c, cr, q, _⟩ := All2.cons_left.1 hfil
                cases q
            rw [hnil] at hu
            cases hu
            exact ⟨_, List.mem_singleton.2 rfl, Pu.vok hr ⟨.tuple #[.bool false], by simp only [hb0, Nat.add_zero]; exact q2, by simp [All2]⟩⟩
          · obtain ⟨a, ha, e1, e2, e3⟩ := All2.mem_right hfil e he
            have hL2 : L = (es.filter (fun e => notIn seen e.2.2)).map fun e => ((.tuple [.bool true, e.1, e.2.1], { h with t := h.t.set r (some (.mapIter (some m) since (seen ++ [e.2.2]) clock)) }) : AV × H) := by
              split at hu
              · rename_i hn; rw [hn] at ha; cases ha
              · rename_i u us hn; rw [hn]; exact (Option.some.inj hu).symm
            have hr1 : HR N φ h w1 := by rcases q3 with rfl | rfl; exact hr; exact hr.heap_eq rfl
            have hb1 : Below N w w1 := by rcases q3 with rfl | rfl; exact Below.refl _ _; exact ⟨rfl, rfl, rfl, Nat.le_refl _, fun _ _ => rfl⟩
            have g1' : w1.heap[La.B]? = some (.mapIter (some M.B) since seen.toArray last) := by rcases q3 with rfl | rfl <;> exact g1
            have hor : OR φ N La (setB w1 La.B (.mapIter (some M.B) since (seen.toArray.push e.born) clock)) (.mapIter (some m) since (seen ++ [a.2.2]) clock) := by
              refine ⟨⟨hN, hb0⟩, some M.B, ?_, M, hM, rfl⟩
              rw [setB_get (hr1.get hb hL).lt, if_pos rfl, e3]; simp
            refine ⟨(.tuple [.bool true, a.1, a.2.1], { h with t := h.t.set r (some (.mapIter (some m) since (seen ++ [a.2.2]) clock)) }), by rw [hL2]; exact List.mem_map.2 ⟨a, ha, rfl⟩, ?_⟩
            refine ⟨φ, .tuple #[.bool true, e.key, e.val], setB w1 La.B (.mapIter (some M.B) since (seen.toArray.push e.born) clock), ?_, by simp [All2, e1, e2], φ.le_refl,
              hr1.set hb hL _ (fun k hk => by rw [setB_get (hr1.get hb hL).lt, if_neg hk]) hor, hb1.trans (below_setB _ hN)⟩
            simp only [hb0, Nat.add_zero]
            exact q4
        · cases hu
      · cases hu
    · cases hu
  · cases hu
end
section
variable {P : Program} {N : NN} {φ : Phi} {w0 w : World} {bot : List Frame} {s : S} {fr : Frame} {cs : List Frame}
theorem pickA_op {tm : T AV} {h : H} {o : Op} {L : List (AV × H)} (hp : pickA tm h o = some L) : ∃ x v, o = .next x false ∧ evalA tm x = some v ∧ nextL v h = some L := by
  unfold pickA at hp
  split at hp
  · rename_i x
    split at hp
    · rename_i v hv; exact ⟨x, v, rfl, hv, hp⟩
    · cases hp
  · cases hp
theorem sim_pick {ops : Array Oper} {o : Oper} {l : List Oper} {k : List AItem} (hs : SR N w0 φ s fr cs w) (hdr : s.fr.dr = none) (hm : s.fr.mode = .run) (ht : s.fr.todo = .ops ops (o :: l) :: k)
    (hw : wantedA s.fr ops o = true) {L : List (AV × H)} (hp : pickA s.fr.tm s.h o.op = some L) (hfin : ∀ v, ∃ c', s.fr.finish v = some c') : ∃ y c', y ∈ L ∧ s.fr.finish y.1 = some c' ∧ Goes P N w0 bot φ fr cs w ⟨c', s.cs, y.2⟩ := by
  obtain ⟨hF, hcs, hh, hb, hN⟩ := hs
  have hf := hF.un hdr
  obtain ⟨f1, f2, f3, f4, f5, f6, f7⟩ := hf
  rw [hm] at f5; simp only [MR] at f5
  rw [ht] at f3
  obtain ⟨ci, ck, hct, ⟨idx, hidx0, hidx⟩, hk⟩ := All2.cons_left.1 f3
  subst hidx0
  obtain ⟨i, rest, rfl, ho, hrest⟩ := opsR_cons hidx
  rw [wanted_rel f2] at hw
  obtain ⟨x, v, hop, hv, hL⟩ := pickA_op hp
  obtain ⟨y, hy, hvok⟩ := nextL_rel (P := P) hh (t := o.type) (evalA_rel f2 hv) hL
  obtain ⟨φ', cv, w', e, hv', hle, hh', hb'⟩ := hvok.rr
  obtain ⟨c', hc'⟩ := hfin y.1
  obtain ⟨cfn, ctmps, ctodo, cds, cmode, ckind, cro⟩ := fr
  simp only at hct f5 hw; subst hct; subst f5
  refine ⟨y, c', hy, hc', φ', _, cs, w', hle, m_value ho hw (.inr fun c q => by rw [hop] at q; cases q) ?_, ⟨finish_rel (hF.le hle) hv' hc', hcs.le hle, hh', hb.trans hb', Nat.le_trans hN hb'.size⟩⟩
  obtain ⟨od, oop, oty, opos, oaf, og⟩ := o
  simp only at hop
  subst hop
  exact e
end
end
end Go.AX

namespace Go.AX
open Go.RowKit
section
variable {P : Program} {K : Hook} {N : NN} {φ : Phi} {w0 w : World} {bot : List Frame} {s s' : S} {fr : Frame} {cs : List Frame}
theorem sim_step1 (hK : HookOk P K) (hs : SR N w0 φ s fr cs w) (hdr : s.fr.dr = none) (h : step1 P K s = some s') : GoesN P N w0 bot φ fr cs w s' := by
  unfold step1 at h
  split at h
  · rename_i hm
    have hs' := hs
    obtain ⟨hF, hcs, hh, hb, hN⟩ := hs
    obtain ⟨f1, f2, f3, f4, f5, f6, f7⟩ := hF.un hdr
    have f5' := f5
    rw [hm] at f5'; simp only [MR] at f5'
    split at h
    · rename_i ht
      rw [ht, All2.nil_left] at f3
      exact (sim_leave hs' hdr hm h (.inl ⟨f3, rfl⟩)).n
    · rename_i ops l k ht
      have f3' := f3
      rw [ht] at f3'
      obtain ⟨ci, ck, hct, ⟨idx, hidx0, hidx⟩, hk⟩ := All2.cons_left.1 f3'
      subst hidx0
      split at h
      · -- the region ends
        simp only [List.map_nil, List.map_eq_nil_iff] at hidx; subst hidx
        obtain ⟨cfn, ctmps, ctodo, cds, cmode, ckind, cro⟩ := fr
        simp only at hct f5'; subst hct; subst f5'
        exact (sim_to hs' hdr h m_regionEnd hk).n
      · rename_i o l'
        split at h
        · rename_i hw; exact (sim_apply hK hs' hdr hm ht hw h).n
        · rename_i hw
          split at h
          · rename_i fr' hfin
            cases h
            obtain ⟨i, rest, rfl, ho, hrest⟩ := opsR_cons hidx
            have hfr := finish_rel hs'.fr VR_und hfin
            rw [wanted_rel f2] at hw
            obtain ⟨cfn, ctmps, ctodo, cds, cmode, ckind, cro⟩ := fr
            simp only at hct f5' hw; subst hct; subst f5'
            exact ⟨N, φ, _, cs, w, rfl, φ.le_refl, m_opSkip (by rw [ho]; exact hw), ⟨hfr, hcs, hh, hb, hN⟩⟩
          · cases h
    · rename_i c k ht
      have f3' := f3
      rw [ht] at f3'
      obtain ⟨ci, ck, hct, hci, hk⟩ := All2.cons_left.1 f3'
      simp only [IR] at hci; subst hci
      cases c with
      | rangeFunc f ps a b => exact (sim_rangeFunc hs' hdr hm ht h).n
      | ret => exact (sim_leave hs' hdr hm h (.inr (.inl ⟨⟨ck, hct⟩, rfl⟩))).n
      | exit id =>
        simp only at h
        obtain ⟨e1, e2⟩ := exitTo_rel (id := id) hk
        split at h
        · rename_i k' hk'
          obtain ⟨ck', q1, q2⟩ := e1 _ hk'
          obtain ⟨cfn, ctmps, ctodo, cds, cmode, ckind, cro⟩ := fr
          simp only at hct f5'; subst hct; subst f5'
          exact (sim_to hs' hdr h (m_exit q1) q2).n
        · rename_i hk'
          exact (sim_leave hs' hdr hm h (.inr (.inr (.inl ⟨id, ck, hct, e2 hk', rfl⟩)))).n
      | goto id =>
        simp only at h
        obtain ⟨e1, e2⟩ := gotoIn_rel (id := id) hk
        split at h
        · rename_i k' hk'
          obtain ⟨ck', q1, q2⟩ := e1 _ hk'
          obtain ⟨cfn, ctmps, ctodo, cds, cmode, ckind, cro⟩ := fr
          simp only at hct f5'; subst hct; subst f5'
          exact (sim_to hs' hdr h (m_goto q1) q2).n
        · rename_i hk'
          exact (sim_leave hs' hdr hm h (.inr (.inr (.inr ⟨id, ck, hct, e2 hk', rfl⟩)))).n
      | refuse why => cases h
      | skip =>
        obtain ⟨cfn, ctmps, ctodo, cds, cmode, ckind, cro⟩ := fr
        simp only at hct f5'; subst hct; subst f5'
        exact (sim_to hs' hdr h m_skip hk).n
      | label l =>
        obtain ⟨cfn, ctmps, ctodo, cds, cmode, ckind, cro⟩ := fr
        simp only at hct f5'; subst hct; subst f5'
        exact (sim_to hs' hdr h m_label hk).n
      | seq a b =>
        obtain ⟨cfn, ctmps, ctodo, cds, cmode, ckind, cro⟩ := fr
        simp only at hct f5'; subst hct; subst f5'
        exact (sim_to hs' hdr h m_seq ⟨rfl, rfl, hk⟩).n
      | block id c =>
        obtain ⟨cfn, ctmps, ctodo, cds, cmode, ckind, cro⟩ := fr
        simp only at hct f5'; subst hct; subst f5'
        exact (sim_to hs' hdr h m_block ⟨rfl, rfl, hk⟩).n
      | loop c =>
        obtain ⟨cfn, ctmps, ctodo, cds, cmode, ckind, cro⟩ := fr
        simp only at hct f5'; subst hct; subst f5'
        exact (sim_to hs' hdr h m_loop ⟨rfl, rfl, hk⟩).n
      | scope c =>
        obtain ⟨cfn, ctmps, ctodo, cds, cmode, ckind, cro⟩ := fr
        simp only at hct f5'; subst hct; subst f5'
        exact (sim_to hs' hdr h m_scope ⟨rfl, rfl, hk⟩).n
      | cond c a b =>
        simp only at h
        split at h
        · rename_i hc
          have hv := evalA_rel f2 hc
          simp only [VR_bool] at hv
          obtain ⟨cfn, ctmps, ctodo, cds, cmode, ckind, cro⟩ := fr
          simp only at hct f5' hv; subst hct; subst f5'
          exact (sim_to hs' hdr h (m_cond hv) ⟨rfl, hk⟩).n
        · rename_i hc
          have hv := evalA_rel f2 hc
          simp only [VR_bool] at hv
          obtain ⟨cfn, ctmps, ctodo, cds, cmode, ckind, cro⟩ := fr
          simp only at hct f5' hv; subst hct; subst f5'
          exact (sim_to hs' hdr h (m_cond hv) ⟨rfl, hk⟩).n
        · cases h
      | region id ops draw =>
        simp only at h
        split at h
        · obtain ⟨cfn, ctmps, ctodo, cds, cmode, ckind, cro⟩ := fr
          simp only at hct f5'; subst hct; subst f5'
          exact (sim_to hs' hdr h m_region ⟨⟨_, rfl, range_ops ops⟩, hk⟩).n
        · split at h
          · rename_i d hmix hd
            exact sim_begin hs' hdr hm ht hmix hd h
          · cases h
    · rename_i id k ht
      rw [ht] at f3
      obtain ⟨ci, ck, hct, hci, hk⟩ := All2.cons_left.1 f3
      simp only [IR] at hci; subst hci
      obtain ⟨cfn, ctmps, ctodo, cds, cmode, ckind, cro⟩ := fr
      simp only at hct f5'; subst hct; subst f5'
      exact (sim_to hs' hdr h m_inBlock hk).n
    · rename_i c k ht
      rw [ht] at f3
      obtain ⟨ci, ck, hct, hci, hk⟩ := All2.cons_left.1 f3
      simp only [IR] at hci; subst hci
      obtain ⟨cfn, ctmps, ctodo, cds, cmode, ckind, cro⟩ := fr
      simp only at hct f5'; subst hct; subst f5'
      exact (sim_to hs' hdr h m_inScope hk).n
    · rename_i c k ht
      rw [ht] at f3
      obtain ⟨ci, ck, hct, hci, hk⟩ := All2.cons_left.1 f3
      simp only [IR] at hci; subst hci
      obtain ⟨cfn, ctmps, ctodo, cds, cmode, ckind, cro⟩ := fr
      simp only at hct f5'; subst hct; subst f5'
      exact (sim_to hs' hdr h m_inLoop ⟨rfl, rfl, hk⟩).n
    · cases h
    · rename_i k ht
      rw [ht] at f3
      obtain ⟨ci, ck, hct, hci, hk⟩ := All2.cons_left.1 f3
      simp only [IR] at hci; subst hci
      split at h
      · rename_i l hro
        have h7 := f7
        rw [hro] at h7
        obtain ⟨L, hL, hro'⟩ := h7
        split at h
        · rename_i r hl
          split at h
          · rename_i hst
            cases h
            obtain ⟨tmps, D, g0, g1, g2, g3, g4⟩ := loop_get (P := P) hh hl hL
            have hset := loop_set (r' := { r with state := .busy }) hh hl hL (tmps := tmps) (D := D) g2 g3 g0
            have hrun : (Instr.beginRound L.B).run P w = .ok () (setB w L.B (.loop { state := .busy, pending := r.pending, fn := r.fn, tmps, params := r.params.toArray, assign := r.assign, body := r.body, defers := D })) := by
              simp only [Instr.beginRound, Sem.run_bind, g4, Result.andThen_ok, setObj_run g1 (fun _ _ _ => by simp), hst, Sem.run_pure]
            obtain ⟨cfn, ctmps, ctodo, cds, cmode, ckind, cro⟩ := fr
            simp only at hct f5' hro'; subst hct; subst f5'; subst hro'
            exact ⟨N, φ, _, cs, _, rfl, φ.le_refl, m_beginRound hrun, ⟨.mk hdr ⟨f1, f2, hk, f4, f5, f6, f7⟩, hcs, hset, hb.trans (below_setB _ g0), by rw [setB_size]; exact hN⟩⟩
          · cases h
        · cases h
      · cases h
    · rename_i l k ht
      rw [ht] at f3
      obtain ⟨ci, ck, hct, ⟨L, hL, hci⟩, hk⟩ := All2.cons_left.1 f3
      subst hci
      split at h
      · rename_i r hl
        obtain ⟨tmps, D, g0, g1, g2, g3, g4⟩ := loop_get (P := P) hh hl hL
        split at h
        · cases h
        · rename_i hst
          have hset := loop_set (r' := { r with state := .exhausted }) hh hl hL (tmps := tmps) (D := D) g2 g3 g0
          have hrun : (Instr.endLoop L.B).run P w = .ok r.pending (setB w L.B (.loop { state := .exhausted, pending := r.pending, fn := r.fn, tmps, params := r.params.toArray, assign := r.assign, body := r.body, defers := D })) := by
            have hne : (r.state == LoopState.busy) = false := by
              cases hrs : r.state with
              | busy => exact absurd hrs hst
              | ready => rfl
              | done => rfl
              | exhausted => rfl
            simp only [Instr.endLoop, Sem.run_bind, g4, Result.andThen_ok, hne, Bool.false_eq_true, if_false, setObj_run g1 (fun _ _ _ => by simp), Sem.run_pure]
          obtain ⟨cfn, ctmps, ctodo, cds, cmode, ckind, cro⟩ := fr
          simp only at hct f5'; subst hct; subst f5'
          have hst := m_endRange (P := P) (fn := cfn) (tmps := ctmps) (k := ck) (ds := cds) (kd := ckind) (ro := cro) (cs := cs ++ bot) hrun
          split at h
          · rename_i c hc
            cases h
            rw [show (r.pending.map Item.code).toList ++ ck = .code c :: ck by rw [hc]; rfl] at hst
            exact ⟨N, φ, _, cs, _, rfl, φ.le_refl, hst, ⟨.mk hdr ⟨f1, f2, ⟨rfl, hk⟩, f4, f5, f6, f7⟩, hcs, hset, hb.trans (below_setB _ g0), by rw [setB_size]; exact hN⟩⟩
          · rename_i hc
            cases h
            rw [show (r.pending.map Item.code).toList ++ ck = ck by rw [hc]; rfl] at hst
            exact ⟨N, φ, _, cs, _, rfl, φ.le_refl, hst, ⟨.mk hdr ⟨f1, f2, hk, f4, f5, f6, f7⟩, hcs, hset, hb.trans (below_setB _ g0), by rw [setB_size]; exact hN⟩⟩
      · cases h
  · rename_i hm
    exact (sim_unwind hs hdr (fun e => hm e) h).n
theorem sim_step (hK : HookOk P K) (hs : SR N w0 φ s fr cs w) (h : stepA P K s = some s') : GoesN P N w0 bot φ fr cs w s' := by
  unfold stepA at h
  split at h
  · rename_i hd; exact sim_step1 hK hs hd h
  · rename_i d hd
    split at h
    · rename_i hm; exact sim_draw hK hs hd hm h
    · rename_i chain hm
      unfold fallD at h
      split at h
      · rename_i c acs fn hds hc hfn
        obtain ⟨hF, hcs, hh, hb, hN⟩ := hs
        obtain ⟨f1, f4⟩ := hF.fnDefers
        have f5 := hF.mode
        rw [hc] at hcs
        obtain ⟨cc, ccs, rfl, hc1, hc2⟩ := hcs
        rw [hm] at f5
        obtain ⟨l', f5, hl⟩ := f5
        rw [hds, All2.nil_left] at f4
        split at h
        · rename_i c' hra
          cases h
          obtain ⟨cfn, ctmps, ctodo, cds, cmode, ckind, cro⟩ := fr
          simp only at f1 f4 f5; subst f4; subst f5
          rw [← f1] at hfn
          exact (show Goes P N w0 bot φ _ _ w (⟨c', acs, s.h⟩ : S) from ⟨φ, _, ccs, w, φ.le_refl, m_raise hfn, ⟨raise_rel hc1 hl hra, hc2, hh, hb, hN⟩⟩).n
        · cases h
      · cases h
    · cases h
theorem sim_run (hK : HookOk P K) {f : FuncId} : ∀ (n : Nat) (N : NN) (φ : Phi) (s : S) (fr : Frame) (cs : List Frame) (w : World) (v : AV) (h' : H), SR N w0 φ s fr cs w → runA P K f n s = some (v, h') →
    ∃ N' : NN, ∃ φ' fr' w' cv, N'.n = N.n ∧ φ.le φ' ∧ Steps P (lone fr (cs ++ bot) w) (lone fr' bot w') ∧ fr'.fn = f ∧ fr'.leaving P w' (.returned cv) ∧ VR φ' v cv ∧ HR N' φ' h' w' ∧ Below N.n w0 w'
  | 0, _, _, _, _, _, _, _, _, _, h => by cases h
  | n + 1, N, φ, s, fr, cs, w, v, h', hs, h => by
    simp only [runA] at h
    split at h
    · rename_i hm hd hc
      split at h
      · rename_i v' hf hk hdn
        cases h
        unfold doneA at hdn
        split at hdn
        · rename_i hdr _ _ _
          obtain ⟨hF, hcs, hh, hb, hN⟩ := hs
          obtain ⟨f1, f2, f3, f4, f5, f6, f7⟩ := hF.un hdr
          rw [hc] at hcs
          replace hcs : cs = [] := hcs
          subst hcs
          rw [hm] at f5; simp only [MR] at f5
          rw [hd, All2.nil_left] at f4
          have hf' := Nat.eq_of_beq_eq_true hf
          split at hdn
          · rename_i fn hfn
            obtain ⟨cv, r1, r2⟩ := resA_rel (P := P) hh f2 hdn
            exact ⟨N, φ, fr, w, cv, rfl, φ.le_refl, Steps.refl P _, f1.trans hf', ⟨f5, f4, f6.trans hk, fn, by rw [f1]; exact hfn, r1⟩, r2, hh, hb⟩
          · cases hdn
        · cases hdn
      · cases h
    · split at h
      · rename_i s1 hst
        obtain ⟨N1, φ1, fr1, cs1, w1, e1, l1, st1, sr1⟩ := sim_step hK (bot := bot) hs hst
        obtain ⟨N2, φ2, fr2, w2, cv, e2, l2, st2, r1, r2, r3, r4, r5⟩ := sim_run hK n N1 φ1 s1 fr1 cs1 w1 v h' sr1 h
        exact ⟨N2, φ2, fr2, w2, cv, e2.trans e1, Phi.le_trans l1 l2, Steps.trans st1 st2, r1, r2, r3, r4, by rw [← e1]; exact r5⟩
      · cases h
theorem calls_of_callA (hK : HookOk P K) {n : Nat} {f : FuncId} {args : List AV} {cargs : Array Value} {h h' : H} {v : AV} (hc : callA P K n f args h = some (v, h')) (hr : HR N φ h w) (hN : N ≤ w.heap.size)
    (ha : All2 (VR φ) args cargs.toList) : Calls P f cargs w fun e w' => ∃ N' : NN, ∃ φ' cv, N'.n = N.n ∧ e = .returned cv ∧ φ.le φ' ∧ VR φ' v cv ∧ HR N' φ' h' w' ∧ Below N.n w w' := by
  intro bot
  unfold callA at hc
  split at hc
  · rename_i fr0 hen
    have hsr : SR N w φ { fr := fr0, cs := [], h } (Frame.enter P f cargs .normal) [] w := ⟨.mk (enter_dr hen) (enter_rel ha hen), rfl, hr, Below.refl _ _, hN⟩
    obtain ⟨N', φ', fr', w', cv, e, l, st, hf, hl, hv, hh, hb⟩ := sim_run hK (bot := bot) n N φ _ _ _ w v h' hsr hc
    exact ⟨.returned cv, w', fr', ⟨N', φ', cv, e, rfl, l, hv, hh, hb⟩, st, hf, hl⟩
  · cases hc
theorem HR_empty (n : Nat) (w : World) : HR ⟨w.heap.size, fun _ => none⟩ (fun _ => none) ⟨.e, n, 0⟩ w :=
  ⟨(fun b o h => by cases h), (fun b o b' o' L L' h => by cases h), (fun b _ => rfl), (fun b h => absurd rfl h), fun g h => absurd h (Nat.not_lt_zero g)⟩
end
end Go.AX

namespace Go.AX
open Go.RowKit
def yes (r : Option (AV × H)) : Bool :=
  match r with
  | some (.bool true, _) => true
  | _ => false
theorem calls_true {P : Program} {K : Hook} (hK : HookOk P K) {n : Nat} {f : FuncId} (h : yes (callA P K n f [] ⟨.e, 0, 0⟩) = true) (w : World) :
    Calls P f #[] w fun e w' => e = .returned (.bool true) ∧ Below w.heap.size w w' := by
  unfold yes at h
  split at h
  · rename_i h' hc
    refine (calls_of_callA hK hc (HR_empty 0 w) (Nat.le_refl _) (cargs := #[]) trivial).mono ?_
    rintro e w' ⟨N', φ, cv, _, he, _, hv, _, hb⟩
    rw [VR_bool] at hv; subst hv
    exact ⟨he, hb⟩
  · cases h
end Go.AX

namespace Go.AX
open Go.Maps
def insertS (s : List Nat) : List (List Nat) → List (List Nat)
  | [] => [s]
  | t :: l => match listLtB t s with
    | true => t :: insertS s l
    | false => s :: t :: l
def sortS : List (List Nat) → List (List Nat)
  | [] => []
  | s :: l => insertS s (sortS l)
def nats (l : List UInt8) : List Nat := l.map UInt8.toNat
theorem ltB_iff : ∀ (a b : List UInt8), listLtB (nats a) (nats b) = true ↔ a < b
  | _, [] => by simp [nats, listLtB]
  | [], y :: b => by simp [nats, listLtB]
  | x :: a, y :: b => by
    have ih := ltB_iff a b
    simp only [nats, List.map_cons, listLtB] at ih ⊢
    rw [List.cons_lt_cons_iff]
    cases h : Nat.blt x.toNat y.toNat with
    | true =>
      have : x.toNat < y.toNat := Nat.le_of_ble_eq_true h
      simp [UInt8.lt_iff_toNat_lt, this]
    | false =>
      have hn : ¬ x.toNat < y.toNat := fun e => by rw [show Nat.blt x.toNat y.toNat = true from Nat.ble_eq_true_of_le e] at h; cases h
      simp only
      cases h2 : Nat.beq x.toNat y.toNat with
      | true =>
        have e := UInt8.toNat_inj.1 (Nat.eq_of_beq_eq_true h2)
        subst e
        simp only [ih]
        simp
      | false =>
        have hne : x ≠ y := fun e => by subst e; rw [Nat.beq_refl] at h2; cases h2
        simp [UInt8.lt_iff_toNat_lt, hn, hne]
theorem insertS_perm (s : List Nat) : ∀ l, (insertS s l).Perm (s :: l)
  | [] => .refl _
  | t :: l => by
    simp only [insertS]
    split
    · exact ((insertS_perm s l).cons t).trans (.swap _ _ _)
    · exact .refl _
theorem sortS_perm : ∀ l, (sortS l).Perm l
  | [] => .refl _
  | s :: l => (insertS_perm s (sortS l)).trans ((sortS_perm l).cons s)
def leN (a b : List Nat) : Prop := listLtB b a = false
theorem leN_nats (a b : List UInt8) : leN (nats a) (nats b) ↔ a ≤ b := by
  unfold leN
  have := ltB_iff b a
  constructor
  · intro h
    by_cases h2 : a ≤ b
    · exact h2
    · rw [List.not_le] at h2
      rw [this.2 h2] at h; cases h
  · intro h
    cases h2 : listLtB (nats b) (nats a) with
    | false => rfl
    | true => exact absurd (this.1 h2) (List.not_lt.2 h)
theorem mem_insertS {s x : List Nat} {l : List (List Nat)} : x ∈ insertS s l ↔ x = s ∨ x ∈ l := by
  rw [(insertS_perm s l).mem_iff, List.mem_cons]
theorem insertS_sorted {s : List UInt8} : ∀ {l : List (List UInt8)}, (l.map nats).Pairwise leN → (insertS (nats s) (l.map nats)).Pairwise leN
  | [], _ => by simp [insertS]
  | t :: l, h => by
    simp only [List.map_cons, List.pairwise_cons] at h
    simp only [List.map_cons, insertS]
    cases hc : listLtB (nats t) (nats s) with
    | true =>
      simp only [List.pairwise_cons]
      refine ⟨fun x hx => ?_, insertS_sorted h.2⟩
      rcases mem_insertS.1 hx with rfl | hx
      · rw [leN_nats]; exact List.le_of_lt ((ltB_iff t s).1 hc)
      · exact h.1 x hx
    | false =>
      have hst : s ≤ t := (leN_nats s t).1 hc
      simp only [List.pairwise_cons]
      refine ⟨fun x hx => ?_, h.1, h.2⟩
      simp only [List.mem_cons, List.mem_map] at hx
      rcases hx with rfl | ⟨y, hy, rfl⟩
      · exact hc
      · have := (leN_nats t y).1 (h.1 _ (List.mem_map.2 ⟨y, hy, rfl⟩))
        rw [leN_nats]; exact List.le_trans hst this
theorem sortS_isMap : ∀ (l : List (List UInt8)), ∃ m : List (List UInt8), sortS (l.map nats) = m.map nats ∧ m.Perm l ∧ (m.map nats).Pairwise leN
  | [] => ⟨[], rfl, .refl _, by simp⟩
  | s :: l => by
    obtain ⟨m, h1, h2, h3⟩ := sortS_isMap l
    have hs := insertS_sorted (s := s) h3
    have hp := insertS_perm (nats s) (m.map nats)
    simp only [List.map_cons, sortS, h1]
    obtain ⟨m', e, hm'⟩ : ∃ m' : List (List UInt8), insertS (nats s) (m.map nats) = m'.map nats ∧ m'.Perm (s :: m) := by
      clear hs hp h1 h2 h3
      induction m with
      | nil => exact ⟨[s], rfl, .refl _⟩
      | cons t m ih =>
        simp only [List.map_cons, insertS]
        split
        · obtain ⟨m', e, hp⟩ := ih
          exact ⟨t :: m', by rw [e]; rfl, (hp.cons t).trans (.swap _ _ _)⟩
        · exact ⟨s :: t :: m, rfl, .refl _⟩
    refine ⟨m', e, hm'.trans (h2.cons s), ?_⟩
    rw [← e]; exact hs
theorem sortS_mergeSort {l ss : List (List UInt8)} (h : ss.Perm l) : sortS (l.map nats) = (ss.mergeSort leB).map nats := by
  obtain ⟨m, h1, h2, h3⟩ := sortS_isMap l
  rw [h1]
  congr 1
  have tr : ∀ a b c : List UInt8, leB a b = true → leB b c = true → leB a c = true := fun a b c h1 h2 => by simp only [leB, decide_eq_true_eq] at *; exact List.le_trans h1 h2
  have to : ∀ a b : List UInt8, (leB a b || leB b a) = true := fun a b => by simp only [leB, Bool.or_eq_true, decide_eq_true_eq]; exact List.le_total a b
  have hm : m.Pairwise (fun a b => leB a b = true) := by
    rw [List.pairwise_map] at h3
    refine h3.imp fun {a b} hab => ?_
    simp only [leB, decide_eq_true_eq]
    exact (leN_nats a b).1 hab
  refine List.Perm.eq_of_pairwise (le := fun a b => leB a b = true) (fun a b _ _ h1 h2 => ?_) hm (List.pairwise_mergeSort tr to ss) ((h2.trans h.symm).trans (List.mergeSort_perm ss leB).symm)
  simp only [leB, decide_eq_true_eq] at h1 h2
  exact List.le_antisymm h1 h2
end Go.AX

namespace Go.AX
noncomputable section
open Go.RowKit Go.Maps Go.WideElems Go.MapKept Go.WideShapes
open Go.Proofs (encStr)
def SortedOk (P : Program) (fS fK : FuncId) (Kt : TypeId) : Prop :=
  ∀ (Bm b nn : Nat) (D0 : DataW Unit) (R : Value → Option (DataW Unit × List MemPlace)) (w : World), Bm < w.heap.size → w.cell? ⟨Bm, 0, none⟩ = some (.map (some b)) → w.ownsMap P Kt R b nn D0 →
    Maps.size D0 ≤ maxLen → Maps.size D0 * 16 ≤ 140737488355328 →
    Calls P fS #[.func (.func fK) #[] #[.pointer (some ⟨Bm, 0, none⟩)]] w fun e w' => ∃ (v : Value) (ss : List (List UInt8)), e = .returned v ∧ ss.Perm (strKeys D0) ∧
      w'.ownsRow w.heap.size Kt 1 v ss.length ((ss.mergeSort leB).map encStr) ∧ (v = .slice none 0 0 ↔ ss = []) ∧ Below w.heap.size w w'
def notInS (s : List Nat) : List (List Nat) → Bool
  | [] => true
  | t :: l => match listEqB s t with
    | true => false
    | false => notInS s l
def keysOf (clock : Nat) : List (AV × AV × Nat) → Option (List (List Nat) × List Nat)
  | [] => some ([], [])
  | (k, _, b) :: l => match k with
    | .str s => match keysOf clock l with
      | some (ks, bs) => match notInS s ks && notIn bs b && Nat.blt b clock && small s.length with
        | true => some (s :: ks, b :: bs)
        | false => none
      | none => none
    | _ => none
def sortedAt (h : H) (es : List (AV × AV × Nat)) (clock : Nat) : Option (AV × H) :=
  match small es.length, keysOf clock es with
  | true, some (ks, _) => match ks with
    | [] => some (.nilslice, h)
    | _ :: _ => some (.slice h.nx 0 ks.length (.opn 0), h.grown none ⟨1, 0⟩ ((sortS ks).map .str))
  | _, _ => none
def sortedIn (h : H) (b : Nat) : Option (AV × H) :=
  match h.t.get b with
  | some (.cells _ cs ⟨0, _⟩ _) => match cs.get 0 with
    | some (.map m) => match h.t.get m with
      | some (.map es clock) => sortedAt h es clock
      | _ => none
    | _ => none
  | _ => none
def sortedCall (fS fK : FuncId) (f : FuncId) (args : List AV) (h : H) : Option (AV × H) :=
  match Nat.beq f fS with
  | true => match args with
    | [.func g [] [.ptr b 0]] => match Nat.beq g fK with
      | true => sortedIn h b
      | false => none
    | _ => none
  | false => none
def sortedHook (fS fK : FuncId) : Hook := ⟨sortedCall fS fK, fun _ _ _ => none⟩
theorem listEqB_iff : ∀ (a b : List Nat), listEqB a b = true ↔ a = b
  | [], [] => by simp [listEqB]
  | [], _ :: _ => by simp [listEqB]
  | _ :: _, [] => by simp [listEqB]
  | x :: a, y :: b => by
    simp only [listEqB, List.cons.injEq]
    cases h : Nat.beq x y with
    | true => rw [Nat.eq_of_beq_eq_true h]; simp [listEqB_iff a b]
    | false => simp [Nat.ne_of_beq_eq_false h]
theorem notInS_iff {s : List Nat} : ∀ {l : List (List Nat)}, notInS s l = true ↔ s ∉ l
  | [] => by simp [notInS]
  | t :: l => by
    simp only [notInS, List.mem_cons, not_or]
    cases h : listEqB s t with
    | true => simp [(listEqB_iff s t).1 h]
    | false =>
      have : s ≠ t := fun e => by rw [(listEqB_iff s t).2 e] at h; cases h
      simp [this, notInS_iff (l := l)]
theorem notIn_iff {x : Nat} : ∀ {l : List Nat}, notIn l x = true ↔ x ∉ l
  | [] => by simp [notIn]
  | y :: l => by
    simp only [notIn, List.mem_cons, not_or]
    cases h : Nat.beq x y with
    | true => simp [Nat.eq_of_beq_eq_true h]
    | false => simp [Nat.ne_of_beq_eq_false h, notIn_iff (l := l)]
section
variable {P : Program} {N : NN} {φ : Phi} {w w' : World} {h : H}
theorem keysOf_rel {clock : Nat} : ∀ {es : List (AV × AV × Nat)} {ces : List MapEntry} {ks : List (List Nat)} {bs : List Nat}, keysOf clock es = some (ks, bs) → All2 (EntR φ) es ces →
    ∃ l : List (List UInt8), ks = l.map nats ∧ ces.map (·.key) = l.map encStr ∧ l.Nodup ∧ bs = ces.map (·.born) ∧ bs.Nodup ∧ (∀ b, b ∈ bs → b < clock) ∧ (∀ x, x ∈ l → x.length ≤ 4194304)
  | [], ces, ks, bs, hk, ha => by
    simp only [keysOf, Option.some.injEq, Prod.mk.injEq] at hk
    obtain ⟨rfl, rfl⟩ := hk
    have := All2.nil_left.1 ha; subst this
    exact ⟨[], rfl, rfl, .nil, rfl, .nil, by simp, by simp⟩
  | (k, v, b) :: es, ces, ks, bs, hk, ha => by
    obtain ⟨m, ces', rfl, hm, ha'⟩ := All2.cons_left.1 ha
    simp only [keysOf] at hk
    split at hk
    · rename_i s
      split at hk
      · rename_i ks' bs' hk'
        split at hk
        · rename_i hc
          simp only [Option.some.injEq, Prod.mk.injEq] at hk
          obtain ⟨rfl, rfl⟩ := hk
          simp only [Bool.and_eq_true] at hc
          obtain ⟨⟨⟨c1, c2⟩, c3⟩, c4⟩ := hc
          obtain ⟨l, rfl, e2, e3, rfl, e5, e6, e7⟩ := keysOf_rel hk' ha'
          obtain ⟨m1, m2, m3⟩ := hm
          simp only [VR_str] at m1
          obtain ⟨ba, mk, hb⟩ := m1
          have hs : nats ba.data.toList = s := hb
          simp only at m3
          refine ⟨ba.data.toList :: l, by rw [← hs]; rfl, ?_, ?_, by rw [← m3]; rfl, ?_, ?_, ?_⟩
          · simp only [List.map_cons, e2, mk, encStr]
          · refine List.nodup_cons.2 ⟨fun hx => notInS_iff.1 c1 ?_, e3⟩
            rw [← hs]; exact List.mem_map.2 ⟨_, hx, rfl⟩
          · exact List.nodup_cons.2 ⟨notIn_iff.1 c2, e5⟩
          · intro b' hb'
            rcases List.mem_cons.1 hb' with rfl | hb'
            · exact Nat.le_of_ble_eq_true c3
            · exact e6 b' hb'
          · intro x hx
            rcases List.mem_cons.1 hx with rfl | hx
            · have := Nat.le_of_ble_eq_true c4
              rw [← hs] at this; simpa [nats] using this
            · exact e7 x hx
        · cases hk
      · cases hk
    · cases hk
theorem HR.below (hr : HR N φ h w) (hb : Below w.heap.size w w') : HR N φ h w' :=
  ⟨fun b o hb' hn => let ⟨L, h1, h2⟩ := hr.obj b o hb' hn; ⟨L, h1, h2.congr (hb.block _ h2.lt)⟩, hr.inj, hr.lt, hr.res, hr.glob⟩
theorem sortedHook_ok {fS fK : FuncId} {Kt : TypeId} (hu : P.underlying Kt = some .string) (hc : SortedOk P fS fK Kt) : HookOk P (sortedHook fS fK) := by
  refine ⟨?_, fun _ _ _ _ _ h => (by cases h)⟩
  intro f args h v h' hk N φ w cargs hr hN ha
  unfold sortedHook sortedCall at hk
  simp only at hk
  split at hk
  · rename_i hf
    have hf := Nat.eq_of_beq_eq_true hf; subst hf
    split at hk
    · rename_i g b
      split at hk
      · rename_i hg
        have hg := Nat.eq_of_beq_eq_true hg; subst hg
        unfold sortedIn at hk
        split at hk
        · rename_i n cs ety ro hb
          split at hk
          · rename_i m hm
            split at hk
            · rename_i es clock hme
              unfold sortedAt at hk
              split at hk
              · rename_i ks bs hsm hkeys
                -- the arguments
                obtain ⟨ca, cl, hcl, hfa, hnil⟩ := All2.cons_left.1 ha
                have := All2.nil_left.1 hnil; subst this
                simp only [VR_func] at hfa
                obtain ⟨a1, a2, rfl, h1, h2⟩ := hfa
                have := All2.nil_left.1 h1
                have ha1 : a1 = #[] := by cases a1; simp_all
                obtain ⟨cp, cl2, hcl2, hp, hnil2⟩ := All2.cons_left.1 h2
                have := All2.nil_left.1 hnil2; subst this
                have ha2 : a2 = #[cp] := by cases a2; simp_all
                simp only [VR_ptr] at hp
                obtain ⟨L, hL, rfl⟩ := hp
                have hca : cargs = #[.func (.func g) #[] #[.pointer (some ⟨L.B, L.base + 0, none⟩)]] := by cases cargs; simp_all
                -- the blocks
                obtain ⟨c, t, frz, g1, g2, g3, g4, g5⟩ := hr.get hb hL
                have hbase := g5.2.1 rfl
                obtain ⟨g6, g7, cv, g8, g9⟩ := g3 0 _ hm
                simp only [VR_map] at g9
                obtain ⟨M, hM, rfl⟩ := g9
                obtain ⟨q1, ces, q2, q3⟩ := hr.get hme hM
                rw [hca, hbase]
                simp only [Nat.add_zero]
                have hcell : w.cell? ⟨L.B, 0, none⟩ = some (.map (some M.B)) := by
                  rw [hbase] at g8; rw [cell_eq g1]; exact g8
                have hBm : L.B < w.heap.size := (hr.get hb hL).lt
                obtain ⟨l, k1, k2, k3, k4, k5, k6, k7⟩ := keysOf_rel hkeys q3
                have hlen : ces.toList.length = es.length := q3.length.symm
                have hsmall : es.length ≤ 4194304 := Nat.le_of_ble_eq_true hsm
                let R : Value → Option (DataW Unit × List MemPlace) := fun _ => some (.nil, [])
                have hmax : (4194304 : Nat) ≤ maxLen := by decide
                have hkeyOf : ∀ x, x ∈ ces.toList → ∃ y, y ∈ l ∧ x.key = encStr y ∧ keyOf P Kt x.key = some (.string y) := by
                  intro x hx
                  have : x.key ∈ ces.toList.map (·.key) := List.mem_map.2 ⟨x, hx, rfl⟩
                  rw [k2] at this
                  obtain ⟨y, hy, e⟩ := List.mem_map.1 this
                  refine ⟨y, hy, e.symm, ?_⟩
                  rw [← e]
                  have : y.length ≤ maxLen := Nat.le_trans (k7 y hy) hmax
                  simp only [keyOf, hu, mapKey, encStr]
                  rw [if_pos (show (ByteArray.mk y.toArray).size ≤ maxLen by show y.toArray.size ≤ maxLen; simpa using this)]
                have hrd : ∀ x, x ∈ ces.toList → ∃ y, y ∈ l ∧ x.key = encStr y ∧ rd P Kt R x = some (.string y, .nil) := by
                  intro x hx
                  obtain ⟨y, hy, e1, e2⟩ := hkeyOf x hx
                  exact ⟨y, hy, e1, by simp [rd, e2, R]⟩
                have hfit : Fit P Kt R ces clock := by
                  refine ⟨by rw [← Array.length_toList, hlen]; omega, ⟨?_, ?_, ?_⟩, fun x hx => ?_⟩
                  · intro x hx
                    exact k6 _ (by rw [k4]; exact List.mem_map.2 ⟨x, hx, rfl⟩)
                  · rw [← k4]; exact k5
                  · rw [k2]
                    exact List.pairwise_map.2 (k3.imp fun {a b} hne e => hne (encStr_inj e))
                  · obtain ⟨y, _, _, e⟩ := hrd x hx; exact ⟨_, e⟩
                have hown : w.ownsMap P Kt R M.B es.length (.map ((ces.toList.map (rg P Kt R)).foldr DataW.insert [])) :=
                  ⟨ces, clock, q2, hfit, by rw [← Array.length_toList, hlen]; exact Nat.le_refl _, rfl⟩
                have hsize : Maps.size (DataW.map ((ces.toList.map (rg P Kt R)).foldr DataW.insert [])) = es.length := by
                  simp [Maps.size, length_sorted, hlen]
                have hperm : (strKeys (DataW.map ((ces.toList.map (rg P Kt R)).foldr DataW.insert []))).Perm l := by
                  have e : (ces.toList.map (rg P Kt R)).map (fun p => strOf p.1) = l := by
                    have hmap : ∀ (xs : List MapEntry) (ys : List (List UInt8)), xs.map (·.key) = ys.map encStr → (∀ x, x ∈ xs → ∃ y, x.key = encStr y ∧ rd P Kt R x = some (.string y, .nil)) → (xs.map (rg P Kt R)).map (fun p => strOf p.1) = ys := by
                      intro xs
                      induction xs with
                      | nil => intro ys h1 _; cases ys with
                        | nil => rfl
                        | cons y ys => cases h1
                      | cons x xs ih =>
                        intro ys h1 h2
                        cases ys with
                        | nil => cases h1
                        | cons y ys =>
                          simp only [List.map_cons, List.cons.injEq] at h1
                          obtain ⟨y', e1, e2⟩ := h2 x (by simp)
                          have : y' = y := encStr_inj (e1.symm.trans h1.1)
                          subst this
                          simp only [List.map_cons]
                          rw [ih ys h1.2 (fun z hz => h2 z (by simp [hz]))]
                          simp [rg, e2, strOf]
                    exact hmap _ _ k2 fun x hx => let ⟨y, _, a, b⟩ := hrd x hx; ⟨y, a, b⟩
                  show (((ces.toList.map (rg P Kt R)).foldr DataW.insert []).map fun p => strOf p.1).Perm l
                  rw [← e]
                  exact (sorted_perm _).map _
                refine (hc L.B M.B es.length _ R w hBm hcell hown (by rw [hsize]; omega) (by rw [hsize]; omega)).mono ?_
                rintro e w' ⟨rv, ss, rfl, hss, hrow, hnil', hbel⟩
                have hssl : ss.Perm l := hss.trans hperm
                have hb' : Below N.n w w' := hbel.mono hN
                have hsame : ∀ k, k < w.heap.size → w'.heap[k]? = w.heap[k]? := fun k hk => hbel.block k hk
                split at hk
                · -- no keys
                  simp only [Option.some.injEq, Prod.mk.injEq] at hk
                  obtain ⟨rfl, rfl⟩ := hk
                  have hl0 : l = [] := by cases l with
                    | nil => rfl
                    | cons a l => cases k1
                  subst hl0
                  have hs0 : ss = [] := List.Perm.eq_nil hssl
                  exact ⟨φ, rv, rfl, φ.le_refl, by rw [VR_nilslice]; exact hnil'.2 hs0, hr.below hbel, hb'⟩
                · rename_i k0 ks0
                  simp only [Option.some.injEq, Prod.mk.injEq] at hk
                  obtain ⟨rfl, rfl⟩ := hk
                  have hsort := sortS_mergeSort hssl
                  rw [← k1] at hsort
                  have hlss : ss.length = (k0 :: ks0).length := by rw [hssl.length_eq, k1, List.length_map]
                  obtain ⟨hr1, hr2⟩ := hrow
                  rcases hr2 with ⟨_, hz⟩ | ⟨gb, cap, cur, rfl, hge, hheap, hncap, hcapm, hcs, htake⟩
                  · rw [hlss] at hz; simp at hz
                  · have hNg : N.n ≤ gb := Nat.le_trans hN hge
                    have hadd := hr.add (w' := w') ⟨gb, 0, cap⟩ (.cells (lenL ((sortS (k0 :: ks0)).map AV.str)) (T.ofRow ((sortS (k0 :: ks0)).map AV.str)) ⟨1, 0⟩ false)
                      (fun x ox L0 hx hL0 e => by have := (hr.get hx hL0).lt; simp only at e; omega)
                      (fun x ox L0 hx hL0 => hsame _ (hr.get hx hL0).lt) ?_
                    · refine ⟨_, _, rfl, hadd.2, ?_, hadd.1, hb'⟩
                      rw [VR_sliceOp]
                      exact ⟨_, Phi.ins_same _ _ _, by rw [hlss]; simp, by rw [← hlss]; simpa using hncap⟩
                    · have hll : ((sortS (k0 :: ks0)).map AV.str).length = ss.length := by
                        rw [List.length_map, hsort, List.length_map, List.length_mergeSort]
                      rw [lenL_eq]
                      refine ⟨cur, Kt, (0, 0), hheap, by rw [hll]; simp only [Nat.zero_add]; omega, fun i x hx => ?_, fun _ => ⟨hNg, fun i _ hh => by omega⟩, ⟨fun _ => ⟨by simp only [hcs]; simp, hcapm⟩, fun e => (by cases e), fun e => absurd rfl e, fun e => (by cases e)⟩⟩
                      rw [T.get_ofRow] at hx
                      have hi := (List.getElem?_eq_some_iff.1 hx).1
                      rw [hsort, List.map_map, List.getElem?_map] at hx
                      cases hq : (ss.mergeSort leB)[i]? with
                      | none => rw [hq] at hx; cases hx
                      | some y =>
                        rw [hq] at hx
                        simp only [Option.map_some, Option.some.injEq, Function.comp] at hx
                        subst hx
                        refine ⟨hi, rfl, encStr y, ?_, ?_⟩
                        · have e2 : (cur.toList.take (ss.length * 1))[i]? = some (encStr y) := by rw [htake, List.getElem?_map, hq]; rfl
                          rw [List.getElem?_take] at e2
                          split at e2
                          · simp only [Nat.zero_add]; rw [← Array.getElem?_toList]; exact e2
                          · cases e2
                        · rw [VR_str]; exact ⟨_, rfl, by simp [bytesOf, nats]⟩
              · cases hk
            · cases hk
          · cases hk
        · cases hk
      · cases hk
    · cases hk
  · cases hk
end
end
end Go.AX

namespace Go.AX
noncomputable section
open Go.RowKit
def ground1 : AV → Bool
  | .bool _ => true
  | .int _ _ => true
  | .str _ => true
  | .nilptr => true
  | .nilslice => true
  | .nilmap => true
  | .nilFunc => true
  | .nilIface => true
  | _ => false
def allB {α : Type} (f : α → Bool) : List α → Bool
  | [] => true
  | x :: l => match f x with
    | true => allB f l
    | false => false
def ground2 : AV → Bool
  | .agg l => allB ground1 l
  | v => ground1 v
def ground3 : AV → Bool
  | .tuple l => allB ground2 l
  | v => ground2 v
theorem allB_mem {α : Type} {f : α → Bool} : ∀ {l : List α}, allB f l = true → ∀ x, x ∈ l → f x = true
  | [], _, x, hx => by cases hx
  | y :: l, h, x, hx => by
    simp only [allB] at h
    split at h
    · rename_i hy
      rcases List.mem_cons.1 hx with rfl | hx
      · exact hy
      · exact allB_mem h x hx
    · cases h
theorem VR_ground1 {φ ψ : Phi} {a : AV} {v : Value} (hg : ground1 a = true) (h : VR φ a v) : VR ψ a v := by
  cases a <;> simp_all [ground1]
theorem All2_ground {φ ψ : Phi} {f : AV → Bool} (hf : ∀ a v, f a = true → VR φ a v → VR ψ a v) : ∀ {l : List AV} {l' : List Value}, (∀ x, x ∈ l → f x = true) → All2 (VR φ) l l' → All2 (VR ψ) l l'
  | [], l', _, h => by rw [All2.nil_left] at h ⊢; exact h
  | x :: l, l', hg, h => by
    obtain ⟨c, cs, rfl, h1, h2⟩ := All2.cons_left.1 h
    exact ⟨hf _ _ (hg x (by simp)) h1, All2_ground hf (fun y hy => hg y (by simp [hy])) h2⟩
theorem VR_ground2 {φ ψ : Phi} {a : AV} {v : Value} (hg : ground2 a = true) (h : VR φ a v) : VR ψ a v := by
  cases a with
  | agg l =>
    simp only [VR_agg] at h ⊢
    obtain ⟨x, e, h⟩ := h
    exact ⟨x, e, All2_ground (fun _ _ => VR_ground1) (allB_mem hg) h⟩
  | _ => exact VR_ground1 hg h
theorem VR_ground3 {φ ψ : Phi} {a : AV} {v : Value} (hg : ground3 a = true) (h : VR φ a v) : VR ψ a v := by
  cases a with
  | tuple l =>
    simp only [VR_tuple] at h ⊢
    obtain ⟨x, e, h⟩ := h
    exact ⟨x, e, All2_ground (fun _ _ => VR_ground2) (allB_mem hg) h⟩
  | _ => exact VR_ground2 hg h
def orHook (a b : Hook) : Hook := ⟨fun f args h =>
  match a.call f args h with
  | some r => some r
  | none => b.call f args h, fun f args h =>
  match a.ext f args h with
  | some r => some r
  | none => b.ext f args h⟩
theorem orHook_ok {P : Program} {a b : Hook} (ha : HookOk P a) (hb : HookOk P b) : HookOk P (orHook a b) := by
  refine ⟨?_, ?_⟩
  · intro f args h v h' hk
    unfold orHook at hk
    simp only at hk
    split at hk
    · cases hk; exact ha.call _ _ _ _ _ ‹_›
    · exact hb.call _ _ _ _ _ hk
  · intro f args h v h' hk
    unfold orHook at hk
    simp only at hk
    split at hk
    · cases hk; exact ha.ext _ _ _ _ _ ‹_›
    · exact hb.ext _ _ _ _ _ hk
end
end Go.AX

namespace Go.AX
noncomputable section
open Go.RowKit
def codeIn : Code → List Nat → Code
  | c, [] => c
  | .seq a b, i :: l => match i with
    | 0 => codeIn a l
    | _ => codeIn b l
  | .cond _ a b, i :: l => match i with
    | 0 => codeIn a l
    | _ => codeIn b l
  | .block _ c, _ :: l => codeIn c l
  | .loop c, _ :: l => codeIn c l
  | .scope c, _ :: l => codeIn c l
  | .rangeFunc _ _ a b, i :: l => match i with
    | 0 => codeIn a l
    | _ => codeIn b l
  | c, _ :: _ => c
def regionOf : Code → Array Oper
  | .region _ ops _ => ops
  | _ => #[]
section
variable {P : Program} {K : Hook}
def Reach (P : Program) (s s' : S) : Prop :=
  ∀ (N : NN) (w0 : World) (bot : List Frame) (φ : Phi) (fr : Frame) (cs : List Frame) (w : World), SR N w0 φ s fr cs w → GoesN P N w0 bot φ fr cs w s'
theorem Reach.refl (s : S) : Reach P s s := fun N _ _ φ fr cs w hs => ⟨N, φ, fr, cs, w, rfl, φ.le_refl, Steps.refl P _, hs⟩
theorem HR.sub {N : NN} {φ : Phi} {h : H} {w : World} (hr : HR N φ h w) {t : T AObj} (ht : ∀ b o, t.get b = some o → h.t.get b = some o) : HR N φ { h with t := t } w :=
  ⟨fun b o hb hn => hr.obj b o (ht b o hb) hn, fun b o b' o' L L' hb hb' => hr.inj b o b' o' L L' (ht b o hb) (ht b' o' hb'), hr.lt, hr.res, hr.glob⟩
def KnownOk (P : Program) (f : FuncId) (v : AV) : Prop :=
  ∀ w : World, Calls P f #[] w fun e w' => ∃ φ cv, e = .returned cv ∧ VR φ v cv ∧ Below w.heap.size w w'
def knownHook (f0 : FuncId) (v : AV) : Hook := ⟨fun f args h =>
  match Nat.beq f f0 with
  | true => match args with
    | [] => some (v, h)
    | _ => none
  | false => none, fun _ _ _ => none⟩
theorem knownHook_ok {f0 : FuncId} {v : AV} (hg : ground3 v = true) (hk : KnownOk P f0 v) : HookOk P (knownHook f0 v) := by
  refine ⟨?_, fun _ _ _ _ _ h => (by cases h)⟩
  intro f args h v' h' he N φ w cargs hr hN ha
  unfold knownHook at he
  simp only at he
  split at he
  · rename_i hf
    have hf := Nat.eq_of_beq_eq_true hf; subst hf
    split at he
    · cases he
      have := All2.nil_left.1 ha
      have hc : cargs = #[] := by cases cargs; simp_all
      subst hc
      refine (hk w).mono ?_
      rintro e w' ⟨ψ, cv, rfl, hv, hb⟩
      exact ⟨φ, cv, rfl, φ.le_refl, VR_ground3 hg hv, hr.below hb, Below.mono hb hN⟩
    · cases he
  · cases he
end
end
end Go.AX

namespace Go.AX
noncomputable section
open Go.RowKit
end
end Go.AX

namespace Go.AX
noncomputable section
open Go.RowKit
section
variable {P : Program} {K : Hook}
theorem reach_one (hK : HookOk P K) {s s' : S} (h : stepA P K s = some s') : Reach P s s' := fun _ _ _ _ _ _ _ hs => sim_step hK hs h
def putT (nt : Nat) (tm : T AV) (d : Option Tmp) (v : AV) : T AV :=
  match d with
  | some d => match Nat.blt d nt with
    | true => tm.set d (some v)
    | false => tm
  | none => tm
section
variable {fn nt : Nat} {tm : T AV} {h : H} {k k' : List AItem} {kd : CallKind} {cs : List AFrame} {c a b : Code}
end
end
end
end Go.AX


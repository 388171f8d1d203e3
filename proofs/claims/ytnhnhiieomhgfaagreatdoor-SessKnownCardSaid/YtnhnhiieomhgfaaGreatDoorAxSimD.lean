/-
  AX: a step in a region whose order is drawn.
-/
import Derived.Test.YtnhnhiieomhgfaaGreatDoorAxSim
namespace Go.AX
open Go.RowKit

section
variable {P : Program} {K : Hook} {N : NN} {φ : Phi} {w0 w : World} {bot : List Frame} {s s' : S} {fr : Frame} {cs : List Frame}

/-- As 'Goes'; blocks may be laid by, or come to be. -/
def GoesN (P : Program) (N : NN) (w0 : World) (bot : List Frame) (φ : Phi) (fr : Frame) (cs : List Frame) (w : World) (s' : S) : Prop :=
  ∃ N' : NN, ∃ φ' fr' cs' w', N'.n = N.n ∧ φ.le φ' ∧ Steps P (lone fr (cs ++ bot) w) (lone fr' (cs' ++ bot) w') ∧ SR N' w0 φ' s' fr' cs' w'

theorem Goes.n (h : Goes P N w0 bot φ fr cs w s') : GoesN P N w0 bot φ fr cs w s' :=
  let ⟨φ', fr', cs', w', a, b, c⟩ := h; ⟨N, φ', fr', cs', w', rfl, a, b, c⟩

theorem m_draw {fn : FuncId} {tmps : Array Value} {k : List Item} {ds : List Deferred} {kd : CallKind} {ro : Option Nat} {cs : List Frame} (hm : P.follows .mixedOrders = true) {id : Nat} {ops : Array Oper} :
    ∃ t, Steps P (lone ⟨fn, tmps, .code (.region id ops true) :: k, ds, .run, kd, ro⟩ cs w) (lone ⟨fn, tmps, .inRegion ops (Region.linearise .any ops t) :: k, ds, .run, kd, ro⟩ cs { w with drawn := w.drawn + 1 }) :=
  ⟨w.tape w.drawn (.order fn id), st (by simp [stepG, stepG.exec, choose, Sem.run, Question.forced, Question.cut, Region.schedule, hm])⟩

theorem earlyOk_mem {nt : Nat} {tm : T AV} {h : H} {ops : Array Oper} : ∀ {l : List (Nat × Oper × Nat)}, earlyOk P nt tm h ops l = true → ∀ p, p ∈ l → readOk P nt tm h ops p.2.1 p.2.2 = true
  | [], _, p, hp => by cases hp
  | (j, o, b) :: l, h, p, hp => by
    simp only [earlyOk] at h
    split at h
    · rename_i hr
      simp only [List.mem_cons] at hp
      rcases hp with rfl | hp
      · exact hr
      · exact earlyOk_mem h p hp
    · cases h

theorem below_n {N N' : NN} {a b : World} (e : N'.n = N.n) (h : Below N'.n a b) : Below N.n a b := by rw [← e]; exact h

/-- The machine does all that the evaluator did ahead of it, up to a place. -/
theorem lag_run {d : Draw} {nt : Nat} {tm : T AV} {h : H} {fn : FuncId} {ck : List Item} {ds : List Deferred} {kd : CallKind} {ro : Option Nat} {acs : List AFrame} (hw : d.wait = false) (hok : earlyOk P nt tm h d.ops d.early = true) :
    ∀ (pre rest : List Nat) (N : NN) (φ : Phi) (tmps : Array Value) (w : World), DW d (pre ++ rest) → (∀ i, i ∈ pre → ∀ p, p ∈ d.rem → p.1 ≠ i) → TX φ d.ops (pre ++ rest) nt tm tmps → HR N φ h w → N.n ≤ w.heap.size →
      LagR N acs.length d (pre ++ rest) → CS N φ acs cs →
      ∃ N' : NN, ∃ φ' tmps' w', N'.n = N.n ∧ φ.le φ' ∧ Steps P (lone ⟨fn, tmps, .inRegion d.ops (pre ++ rest) :: ck, ds, .run, kd, ro⟩ (cs ++ bot) w) (lone ⟨fn, tmps', .inRegion d.ops rest :: ck, ds, .run, kd, ro⟩ (cs ++ bot) w') ∧
        DW d rest ∧ TX φ' d.ops rest nt tm tmps' ∧ HR N' φ' h w' ∧ Below N.n w w' ∧ N'.n ≤ w'.heap.size ∧ LagR N' acs.length d rest ∧ CS N' φ' acs cs
  | [], rest, N, φ, tmps, w, hdw, _, tx, hr, hN, hl, hc => ⟨N, φ, tmps, w, rfl, φ.le_refl, Steps.refl P _, hdw, tx, hr, Below.refl _ _, hN, hl, hc⟩
  | i :: pre, rest, N, φ, tmps, w, hdw, hp, tx, hr, hN, hl, hc => by
    have hall := hdw.all i (by simp)
    rcases hall with ⟨o, ho⟩ | ⟨o, b, ho⟩
    · exact absurd rfl (hp i (by simp) _ ho)
    · have hi := hdw.early _ ho
      obtain ⟨N1, φ1, tmps1, w1, k1, l1, s1, tx1, hr1, b1, n1⟩ := lag_one (P := P) (fn := fn) (ck := ck) (ds := ds) (kd := kd) (ro := ro) (cs := cs ++ bot) (k := acs.length) (rest := pre ++ rest) hdw hi tx hr hN (earlyOk_mem hok _ ho) (fun ha => hl _ ho (by simp) ha)
      obtain ⟨k1, k2⟩ := k1
      have hnd := hdw.tail.2.2
      have hl1 : LagR N1 acs.length d (pre ++ rest) := fun p h1 h2 h3 => k2 _ _ _ (fun e => hnd (by rw [← e.2]; exact h2)) (hl p h1 (List.mem_cons_of_mem _ h2) h3)
      have hc1 : CS N1 φ1 acs cs := (hc.le l1).res (k := acs.length) (fun b j q hj hb => k2 b j q (fun e => by omega) hb) (Nat.le_refl _)
      obtain ⟨N2, φ2, tmps2, w2, e2, l2, s2, dw2, tx2, hr2, b2, n2, lr2, c2⟩ := lag_run hw hok pre rest N1 φ1 tmps1 w1 (hdw.lag hw (hp i (by simp))) (fun j hj => hp j (by simp [hj])) tx1 hr1 n1 hl1 hc1
      exact ⟨N2, φ2, tmps2, w2, e2.trans k1, Phi.le_trans l1 l2, Steps.trans s1 s2, dw2, tx2, hr2, b1.trans (below_n k1 (by rw [k1]; rw [k1] at b2; exact b2)), n2, lr2, c2⟩

/-- A block is laid by. -/
def NN.more (N : NN) (b k i : Nat) : NN := { n := N.n, res := fun x => if x = b then some (k, i) else N.res x }

theorem OR.more {L : Loc} {b k i : Nat} : ∀ {ob : AObj}, OR φ N L w ob → OR φ (N.more b k i) L w ob
  | .cells .., x => x
  | .map .., x => x
  | .strIter .., x => x
  | .mapIter .., x => x
  | .loop _, x => x
  | .deferred _, x => x

theorem HR.reserve {h : H} (hr : HR N φ h w) (ob : AObj) (k i : Nat) : HR (N.more h.nx k i) φ (h.alloc ob) w := by
  refine ⟨fun x ox hx hn => ?_, fun x ox y oy L1 L2 hx hy h1 h2 e => ?_, fun x hx => hr.lt x (by have : h.nx + 1 ≤ x := hx; omega), fun x hx => ?_, hr.glob⟩
  · have q : x ≠ h.nx := by intro e; subst e; simp [NN.more] at hn
    have hn' : N.res x = none := by simpa [NN.more, q] using hn
    simp only [H.alloc, T.get_set, if_neg q] at hx
    obtain ⟨L, g1, g2⟩ := hr.obj x ox hx hn'
    exact ⟨L, g1, g2.more⟩
  · have q : x ≠ h.nx := by intro e; subst e; rw [hr.lt _ (Nat.le_refl _)] at h1; cases h1
    have r : y ≠ h.nx := by intro e; subst e; rw [hr.lt _ (Nat.le_refl _)] at h2; cases h2
    simp only [H.alloc, T.get_set, if_neg q] at hx
    simp only [H.alloc, T.get_set, if_neg r] at hy
    exact hr.inj x ox y oy L1 L2 hx hy h1 h2 e
  · by_cases q : x = h.nx
    · subst q; exact ⟨hr.lt _ (Nat.le_refl _), Nat.lt_succ_self _⟩
    · have hx' : N.res x ≠ none := by simpa [NN.more, q] using hx
      obtain ⟨a, b⟩ := hr.res x hx'
      exact ⟨a, Nat.lt_succ_of_lt b⟩

/-- What is written where something is still to come does not count. -/
theorem TX.ahead {ops : Array Oper} {idx : List Nat} {i : Nat} {o : Oper} {a : AFrame} {tmps : Array Value} (tx : TX φ ops idx a.nt a.tm tmps) (hi : ops[i]? = some o) (hm : i ∈ idx) (v : AV) :
    TX φ ops idx a.nt (a.putD o.dst v) tmps := by
  obtain ⟨h1, h2⟩ := tx
  refine ⟨h1, fun t ht => ?_⟩
  have hne := ht i hm
  rw [dstOf_eq hi] at hne
  unfold AFrame.putD
  split
  · rename_i dd hd
    split
    · rw [T.get_set, if_neg (fun e => hne (by rw [e]; exact hd))]; exact h2 t ht
    · exact h2 t ht
  · exact h2 t ht

theorem execA_defer {tm : T AV} {h : H} {c : Call} : (∃ d h', execA P tm h (.defer c) = .defer d h') ∨ execA P tm h (.defer c) = .fail := by
  obtain ⟨callee, args, ats⟩ := c
  unfold execA
  cases callee with
  | value f =>
    simp only
    split
    · split
      · exact .inl ⟨_, _, rfl⟩
      · exact .inr rfl
    · exact .inr rfl
  | builtin b => exact .inr rfl
  | invoke r m => exact .inr rfl

theorem read_not_alloc {o : Oper} (h : isRead o.op = true) : isAlloc o ≠ true := by
  intro e
  unfold isAlloc at e
  split at e
  · rename_i h2; rw [h2] at h; cases h
  · rename_i h2; rw [h2] at h; cases h
  · cases e

theorem sim_draw (hK : HookOk P K) {d : Draw} (hs : SR N w0 φ s fr cs w) (hd : s.fr.dr = some d) (hm : s.fr.mode = .run) (h : stepD P K s d = some s') : GoesN P N w0 bot φ fr cs w s' := by
  obtain ⟨hF, hcs, hh, hb, hN⟩ := hs
  obtain ⟨idx, ck, hx⟩ := hF.und hd
  obtain ⟨g1, g2, g3, g4, g5, g6, g7, g8, g9, g10⟩ := hx
  have g8' := g8
  rw [hm] at g8'; simp only [MR] at g8'
  unfold stepD at h
  split at h
  · cases h
  · rename_i hw
    split at h
    · -- the region ends
      rename_i hrem
      split at h
      · rename_i hok
        cases h
        obtain ⟨cfn, ctmps, ctodo, cds, cmode, ckind, cro⟩ := fr
        simp only at g1 g2 g3 g7 g8' g9 g10; subst g2; subst g8'
        have hrun := lag_run (P := P) (bot := bot) (fn := cfn) (ck := ck) (ds := cds) (kd := ckind) (ro := cro) (acs := s.cs) hw hok idx [] N φ ctmps w (by rw [List.append_nil]; exact g5) (fun i _ p hp => by rw [hrem] at hp; cases hp) (by rw [List.append_nil]; exact g3) hh hN (by rw [List.append_nil]; exact g6) hcs
        rw [List.append_nil] at hrun
        obtain ⟨N', φ', tmps', w', e1, l1, s1, dw1, tx1, hr1, b1, n1, lr1, c1⟩ := hrun
        refine ⟨N', φ', _, cs, w', e1, l1, Steps.trans s1 m_regionEnd, ⟨.mk rfl ⟨g1, ⟨tx1.1, fun t => tx1.2 t (fun j hj => by cases hj)⟩, g4.mono fun _ _ => IR.le l1, g7.mono fun _ _ => DR.le l1, ?_, g9, g10.le l1⟩, c1, hr1, ?_, n1⟩⟩
        · exact g8.le l1
        · rw [e1]; exact hb.trans b1
      · cases h
    · rename_i i o rem hrem
      have hi := (g5.rem (i, o) (by rw [hrem]; simp)).2
      have him := (g5.rem (i, o) (by rw [hrem]; simp)).1
      split at h
      · -- a block that is laid by
        rename_i hal
        split at h
        · rename_i t l hl
          cases h
          have hlt : ∀ b q, N.res b = some q → b ≠ s.h.nx := fun b q hb e => by
            have := (hh.res b (by rw [hb]; simp)).2; omega
          refine ⟨N.more s.h.nx s.cs.length i, φ, fr, cs, w, rfl, φ.le_refl, Steps.refl P _, ⟨.mkd (d := { d with rem, early := (i, o, s.h.nx) :: d.early }) rfl (idx := idx) (ck := ck) ⟨g1, g2, g3.ahead hi him _, g4, g5.read hw hrem _, ?_, g7, g8, g9, g10⟩, ?_, hh.reserve _ _ _, hb, hN⟩⟩
          · intro p hp hpi hpa
            simp only [List.mem_cons] at hp
            rcases hp with rfl | hp
            · simp [NN.more]
            · have := g6 p hp hpi hpa
              simp [NN.more, hlt _ _ this, this]
          · exact hcs.res (k := s.cs.length) (fun b j q _ hb => by simp [NN.more, hlt _ _ hb, hb]) (Nat.le_refl _)
        · cases h
      · -- a read
        rename_i hal _
        split at h
        · rename_i v hv
          cases h
          refine ⟨N, φ, fr, cs, w, rfl, φ.le_refl, Steps.refl P _, ⟨.mkd (d := { d with rem, early := (i, o, 0) :: d.early }) rfl (idx := idx) (ck := ck) ⟨g1, g2, g3.ahead hi him _, g4, g5.read hw hrem _, ?_, g7, g8, g9, g10⟩, hcs, hh, hb, hN⟩⟩
          intro p hp hpi hpa
          simp only [List.mem_cons] at hp
          rcases hp with rfl | hp
          · exact absurd hpa (read_not_alloc hal)
          · exact g6 p hp hpi hpa
        · cases h
      · -- a writer
        rename_i hal hrd
        split at h
        · rename_i hch hok
          obtain ⟨pre, post, rfl⟩ := List.append_of_mem him
          have hnd := g5.nodup
          rw [List.nodup_append] at hnd
          have hcm := chain_mem g5 rfl hch (fun b hb => by simp only [List.mem_singleton] at hb; subst hb; simp) (fun p hp => by rw [hrem]; simp [hp])
          have hpre : ∀ j, j ∈ pre → ∀ p, p ∈ d.rem → p.1 ≠ j := by
            intro j hj p hp e
            rw [hrem, List.mem_cons] at hp
            rcases hp with rfl | hp
            · exact hnd.2.2 j hj i (by simp) e.symm
            · exact hnd.2.2 j hj p.1 (by simp [(hcm p hp).1]) e.symm
          obtain ⟨cfn, ctmps, ctodo, cds, cmode, ckind, cro⟩ := fr
          simp only at g1 g2 g3 g7 g8' g9 g10; subst g2; subst g8'
          obtain ⟨N1, φ1, tmps1, w1, e1, l1, s1, dw1, tx1, hr1, b1, n1, lr1, c1⟩ := lag_run (P := P) (bot := bot) (fn := cfn) (ck := ck) (ds := cds) (kd := ckind) (ro := cro) (acs := s.cs) hw hok pre (i :: post) N φ ctmps w g5 hpre g3 hh hN g6 hcs
          obtain ⟨x1, x2⟩ := execD_rel (P := P) (o := o) hr1 n1 tx1 (dw1.free hi)
          have hne : ∀ p, p ∈ rem → p.1 ≠ i := fun p hp => (hcm p hp).2
          have hb1 : Below N1.n w0 w1 := by rw [e1]; exact hb.trans b1
          have hdw := dw1.write hw hrem hne
          have hwa := dw1.waits hrem hne
          have hlag : ∀ {N2 : NN}, N2 = N1 → LagR N2 s.cs.length { d with rem, early := dropF (edgesOf o.after.toList) d.early } post := fun e p h1 h2 h3 => by
            subst e; exact lr1 p (dropF_sub h1) (by simp [h2]) h3
          have hlagw : LagR N1 s.cs.length { d with rem := (i, o) :: rem, early := dropF (edgesOf o.after.toList) d.early, wait := true } (i :: post) := fun p h1 h2 h3 => lr1 p (dropF_sub h1) h2 h3
          have g8w : MR φ s.fr.mode .run := g8
          have hF1 : ∀ {φ2 : Phi}, φ1.le φ2 → F2 N1 s.cs.length φ2 { s.fr with dr := some { d with rem := (i, o) :: rem, early := dropF (edgesOf o.after.toList) d.early, wait := true } } ⟨cfn, tmps1, .inRegion d.ops (i :: post) :: ck, cds, .run, ckind, cro⟩ := fun l2 =>
            have l := Phi.le_trans l1 l2
            .mkd rfl (idx := i :: post) (ck := ck) ⟨g1, rfl, tx1.le l2, g4.mono fun _ _ => IR.le l, hwa, hlagw, g7.mono fun _ _ => DR.le l, g8w.le l, g9, g10.le l⟩
          unfold execD at h
          split at h
          · rename_i hwant
            rw [x1] at hwant
            generalize hres : execA P (mini s.fr.tm (slotsOf d.ops o)) s.h o.op = r at h x2
            by_cases hdf : ∃ c, o.op = .defer c
            · obtain ⟨c, hc⟩ := hdf
              rw [hc] at hres
              rcases execA_defer (P := P) (tm := mini s.fr.tm (slotsOf d.ops o)) (h := s.h) (c := c) with ⟨dd, hh', e⟩ | e <;> rw [e] at hres <;> subst hres <;> cases h
            have hdef : cro = none ∨ ∀ c, o.op ≠ .defer c := .inr fun c e => hdf ⟨c, e⟩
            cases r with
            | val v h' =>
              obtain ⟨φ2, cv, w2, r1, r2, r3, r4, r5⟩ := x2
              simp only [applyD] at h
              split at h
              · rename_i hdst
                cases h
                have l := Phi.le_trans l1 r3
                refine ⟨N1, φ2, _, cs, w2, e1, l, Steps.trans s1 (m_value hi hwant hdef r1), ⟨.mkd (d := { d with rem, early := dropF (edgesOf o.after.toList) d.early }) rfl (idx := post) (ck := ck) ⟨g1, rfl, ?_, g4.mono fun _ _ => IR.le l, hdw, hlag rfl, g7.mono fun _ _ => DR.le l, g8w.le l, g9, g10.le l⟩, c1.le r3, r4, hb1.trans r5, Nat.le_trans n1 r5.size⟩⟩
                simp only [Frame.finish, hi, Option.bind_some]
                exact (tx1.le r3).done (a := s.fr) hi hdst r2
              · cases h
            | skip h' =>
              obtain ⟨φ2, w2, r1, r3, r4, r5⟩ := x2
              simp only [applyD] at h
              split at h
              · rename_i hdst
                cases h
                have l := Phi.le_trans l1 r3
                refine ⟨N1, φ2, _, cs, w2, e1, l, Steps.trans s1 (m_skipped hi hwant hdef r1), ⟨.mkd (d := { d with rem, early := dropF (edgesOf o.after.toList) d.early }) rfl (idx := post) (ck := ck) ⟨g1, rfl, ?_, g4.mono fun _ _ => IR.le l, hdw, hlag rfl, g7.mono fun _ _ => DR.le l, g8w.le l, g9, g10.le l⟩, c1.le r3, r4, hb1.trans r5, Nat.le_trans n1 r5.size⟩⟩
                simp only [Frame.finish, hi, Option.bind_some]
                exact (tx1.le r3).done (a := s.fr) hi hdst VR_und
              · cases h
            | enter f args h' =>
              obtain ⟨cargs, r1, r2, r3⟩ := x2
              simp only [applyD] at h
              split at h
              · rename_i v h2 hk2
                split at h
                · rename_i hdst
                  cases h
                  obtain ⟨cv, w2, ⟨φ2, cv', q1, r3, q3, r4, r5⟩, hst⟩ := calls_steps (hK.call _ _ _ _ _ hk2 N1 φ1 w1 cargs r3 n1 r2) (fun e w' ⟨_, cv, he, _⟩ => ⟨cv, he⟩) ⟨cfn, tmps1, .inRegion d.ops (i :: post) :: ck, cds, .run, ckind, cro⟩ (cs ++ bot)
                  cases q1
                  have l := Phi.le_trans l1 r3
                  refine ⟨N1, φ2, _, cs, w2, e1, l, Steps.trans s1 (Steps.trans (m_enter hi hwant hdef r1) hst), ⟨.mkd (d := { d with rem, early := dropF (edgesOf o.after.toList) d.early }) rfl (idx := post) (ck := ck) ⟨g1, rfl, ?_, g4.mono fun _ _ => IR.le l, hdw, hlag rfl, g7.mono fun _ _ => DR.le l, g8w.le l, g9, g10.le l⟩, c1.le r3, r4, hb1.trans r5, Nat.le_trans n1 r5.size⟩⟩
                  simp only [Frame.finish, hi, Option.bind_some]
                  exact (tx1.le r3).done (a := s.fr) hi hdst q3
                · cases h
              split at h
              · rename_i fr' hen
                cases h
                exact ⟨N1, φ1, _, _ :: cs, w1, e1, l1, Steps.trans s1 (m_enter hi hwant hdef r1), ⟨.mk (enter_dr hen) (enter_rel r2 hen), ⟨_, _, rfl, hF1 φ1.le_refl, c1⟩, r3, hb1, n1⟩⟩
              · cases h
            | ext f args h' =>
              obtain ⟨cargs, r1, r2, r3⟩ := x2
              simp only [applyD] at h
              split at h
              · rename_i v h2 hk2
                split at h
                · rename_i hdst
                  cases h
                  obtain ⟨φ2, cv, w2, q1, r3', q3, r4, r5⟩ := hK.ext _ _ _ _ _ hk2 N1 φ1 w1 cargs r3 n1 r2
                  rw [q1] at r1
                  have l := Phi.le_trans l1 r3'
                  refine ⟨N1, φ2, _, cs, w2, e1, l, Steps.trans s1 (m_value hi hwant hdef r1), ⟨.mkd (d := { d with rem, early := dropF (edgesOf o.after.toList) d.early }) rfl (idx := post) (ck := ck) ⟨g1, rfl, ?_, g4.mono fun _ _ => IR.le l, hdw, hlag rfl, g7.mono fun _ _ => DR.le l, g8w.le l, g9, g10.le l⟩, c1.le r3', r4, hb1.trans r5, Nat.le_trans n1 r5.size⟩⟩
                  simp only [Frame.finish, hi, Option.bind_some]
                  exact (tx1.le r3').done (a := s.fr) hi hdst q3
                · cases h
              · cases h
            | round lp args h' =>
              obtain ⟨L, cargs, hL, r1, r2, r3⟩ := x2
              simp only [applyD] at h
              split at h
              · rename_i rl hlp
                split at h
                · rename_i tm' hsp
                  cases h
                  obtain ⟨tmps', hy, htr⟩ := yield_run (P := P) r3 hlp hL r2 hsp
                  rw [hy] at r1
                  exact ⟨N1, φ1, _, _ :: cs, w1, e1, l1, Steps.trans s1 (m_round hi hwant hdef r1), ⟨.mk rfl ⟨rfl, htr, ⟨rfl, rfl, rfl, trivial⟩, trivial, rfl, rfl, ⟨L, hL, rfl⟩⟩, ⟨_, _, rfl, hF1 φ1.le_refl, c1⟩, r3, hb1, n1⟩⟩
                · cases h
              · cases h
            | _ => simp only [applyD] at h; cases h
          · rename_i hwant
            rw [x1] at hwant
            simp only [applyD] at h
            split at h
            · rename_i hdst
              cases h
              refine ⟨N1, φ1, _, cs, w1, e1, l1, Steps.trans s1 (m_opSkip (by rw [hi]; simp only [Option.map_some, Option.getD_some]; exact hwant)), ⟨.mkd (d := { d with rem, early := dropF (edgesOf o.after.toList) d.early }) rfl (idx := post) (ck := ck) ⟨g1, rfl, ?_, g4.mono fun _ _ => IR.le l1, hdw, hlag rfl, g7.mono fun _ _ => DR.le l1, g8w.le l1, g9, g10.le l1⟩, c1, hr1, hb1, n1⟩⟩
              simp only [Frame.finish, hi, Option.bind_some]
              exact tx1.done (a := s.fr) hi hdst VR_und
            · cases h
        · cases h

/-- A drawn region begins. -/
theorem sim_begin {id : Nat} {ops : Array Oper} {k : List AItem} {d : Draw} (hs : SR N w0 φ s fr cs w) (hdr : s.fr.dr = none) (hm : s.fr.mode = .run) (ht : s.fr.todo = .code (.region id ops true) :: k)
    (hmix : P.follows .mixedOrders = true) (hd : drawA ops = some d) (h : some { s with fr := { s.fr with todo := k, dr := some d } } = some s') : GoesN P N w0 bot φ fr cs w s' := by
  obtain ⟨hF, hcs, hh, hb, hN⟩ := hs
  obtain ⟨f1, f2, f3, f4, f5, f6, f7⟩ := hF.un hdr
  have f5' := f5
  rw [hm] at f5'; simp only [MR] at f5'
  rw [ht] at f3
  obtain ⟨ci, ck, hct, hci, hk⟩ := All2.cons_left.1 f3
  simp only [IR] at hci; subst hci
  cases h
  obtain ⟨cfn, ctmps, ctodo, cds, cmode, ckind, cro⟩ := fr
  simp only at hct f5'; subst hct; subst f5'
  obtain ⟨t, hst⟩ := m_draw (P := P) (w := w) (fn := cfn) (tmps := ctmps) (k := ck) (ds := cds) (kd := ckind) (ro := cro) (cs := cs ++ bot) hmix (id := id) (ops := ops)
  obtain ⟨e1, e2, e3, e4⟩ := dw_init hd t
  refine ⟨N, φ, _, cs, _, rfl, φ.le_refl, hst, ⟨.mkd (d := d) rfl (idx := Region.linearise .any ops t) (ck := ck) ⟨f1, by rw [e1], ⟨f2.1, fun i _ => f2.2 i⟩, hk, e4, ?_, f4, f5, f6, f7⟩, hcs, hh.heap_eq rfl, hb.trans ⟨rfl, rfl, rfl, Nat.le_refl _, fun _ _ => rfl⟩, hN⟩⟩
  intro p hp; rw [e3] at hp; cases hp

end
end Go.AX

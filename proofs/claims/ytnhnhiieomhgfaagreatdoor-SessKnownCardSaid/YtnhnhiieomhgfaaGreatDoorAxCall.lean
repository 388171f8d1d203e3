/-
  AX: what the evaluator reckons for a call is what the machine does.
-/
import Derived.Test.YtnhnhiieomhgfaaGreatDoorAxSimD
namespace Go.AX
open Go.RowKit

section
variable {P : Program} {K : Hook} {N : NN} {φ : Phi} {w0 w : World} {bot : List Frame} {s s' : S} {fr : Frame} {cs : List Frame}

theorem sim_step1 (hK : HookOk P K) (hs : SR N w0 φ s fr cs w) (hdr : s.fr.dr = none) (h : step1 P K s = some s') : GoesN P N w0 bot φ fr cs w s' := by
  unfold step1 at h
  split at h
  · rename_i hm
    have hs' := hs
    obtain ⟨hF, hcs, hh, hb, hN⟩ := hs
    obtain ⟨f1, f2, f3, f4, f5, f6, f7⟩ := hF.un hdr
    have f5' := f5
    rw [hm] at f5'; simp only [MR] at f5'
    split at h
    · rename_i ht
      rw [ht, All2.nil_left] at f3
      exact (sim_leave hs' hdr hm h (.inl ⟨f3, rfl⟩)).n
    · rename_i ops l k ht
      have f3' := f3
      rw [ht] at f3'
      obtain ⟨ci, ck, hct, ⟨idx, hidx0, hidx⟩, hk⟩ := All2.cons_left.1 f3'
      subst hidx0
      split at h
      · -- the region ends
        simp only [List.map_nil, List.map_eq_nil_iff] at hidx; subst hidx
        obtain ⟨cfn, ctmps, ctodo, cds, cmode, ckind, cro⟩ := fr
        simp only at hct f5'; subst hct; subst f5'
        exact (sim_to hs' hdr h m_regionEnd hk).n
      · rename_i o l'
        split at h
        · rename_i hw; exact (sim_apply hK hs' hdr hm ht hw h).n
        · rename_i hw
          split at h
          · rename_i fr' hfin
            cases h
            obtain ⟨i, rest, rfl, ho, hrest⟩ := opsR_cons hidx
            have hfr := finish_rel hs'.fr VR_und hfin
            rw [wanted_rel f2] at hw
            obtain ⟨cfn, ctmps, ctodo, cds, cmode, ckind, cro⟩ := fr
            simp only at hct f5' hw; subst hct; subst f5'
            exact ⟨N, φ, _, cs, w, rfl, φ.le_refl, m_opSkip (by rw [ho]; exact hw), ⟨hfr, hcs, hh, hb, hN⟩⟩
          · cases h
    · rename_i c k ht
      have f3' := f3
      rw [ht] at f3'
      obtain ⟨ci, ck, hct, hci, hk⟩ := All2.cons_left.1 f3'
      simp only [IR] at hci; subst hci
      cases c with
      | rangeFunc f ps a b => exact (sim_rangeFunc hs' hdr hm ht h).n
      | ret => exact (sim_leave hs' hdr hm h (.inr (.inl ⟨⟨ck, hct⟩, rfl⟩))).n
      | exit id =>
        simp only at h
        obtain ⟨e1, e2⟩ := exitTo_rel (id := id) hk
        split at h
        · rename_i k' hk'
          obtain ⟨ck', q1, q2⟩ := e1 _ hk'
          obtain ⟨cfn, ctmps, ctodo, cds, cmode, ckind, cro⟩ := fr
          simp only at hct f5'; subst hct; subst f5'
          exact (sim_to hs' hdr h (m_exit q1) q2).n
        · rename_i hk'
          exact (sim_leave hs' hdr hm h (.inr (.inr (.inl ⟨id, ck, hct, e2 hk', rfl⟩)))).n
      | goto id =>
        simp only at h
        obtain ⟨e1, e2⟩ := gotoIn_rel (id := id) hk
        split at h
        · rename_i k' hk'
          obtain ⟨ck', q1, q2⟩ := e1 _ hk'
          obtain ⟨cfn, ctmps, ctodo, cds, cmode, ckind, cro⟩ := fr
          simp only at hct f5'; subst hct; subst f5'
          exact (sim_to hs' hdr h (m_goto q1) q2).n
        · rename_i hk'
          exact (sim_leave hs' hdr hm h (.inr (.inr (.inr ⟨id, ck, hct, e2 hk', rfl⟩)))).n
      | refuse why => cases h
      | skip =>
        obtain ⟨cfn, ctmps, ctodo, cds, cmode, ckind, cro⟩ := fr
        simp only at hct f5'; subst hct; subst f5'
        exact (sim_to hs' hdr h m_skip hk).n
      | label l =>
        obtain ⟨cfn, ctmps, ctodo, cds, cmode, ckind, cro⟩ := fr
        simp only at hct f5'; subst hct; subst f5'
        exact (sim_to hs' hdr h m_label hk).n
      | seq a b =>
        obtain ⟨cfn, ctmps, ctodo, cds, cmode, ckind, cro⟩ := fr
        simp only at hct f5'; subst hct; subst f5'
        exact (sim_to hs' hdr h m_seq ⟨rfl, rfl, hk⟩).n
      | block id c =>
        obtain ⟨cfn, ctmps, ctodo, cds, cmode, ckind, cro⟩ := fr
        simp only at hct f5'; subst hct; subst f5'
        exact (sim_to hs' hdr h m_block ⟨rfl, rfl, hk⟩).n
      | loop c =>
        obtain ⟨cfn, ctmps, ctodo, cds, cmode, ckind, cro⟩ := fr
        simp only at hct f5'; subst hct; subst f5'
        exact (sim_to hs' hdr h m_loop ⟨rfl, rfl, hk⟩).n
      | scope c =>
        obtain ⟨cfn, ctmps, ctodo, cds, cmode, ckind, cro⟩ := fr
        simp only at hct f5'; subst hct; subst f5'
        exact (sim_to hs' hdr h m_scope ⟨rfl, rfl, hk⟩).n
      | cond c a b =>
        simp only at h
        split at h
        · rename_i hc
          have hv := evalA_rel f2 hc
          simp only [VR_bool] at hv
          obtain ⟨cfn, ctmps, ctodo, cds, cmode, ckind, cro⟩ := fr
          simp only at hct f5' hv; subst hct; subst f5'
          exact (sim_to hs' hdr h (m_cond hv) ⟨rfl, hk⟩).n
        · rename_i hc
          have hv := evalA_rel f2 hc
          simp only [VR_bool] at hv
          obtain ⟨cfn, ctmps, ctodo, cds, cmode, ckind, cro⟩ := fr
          simp only at hct f5' hv; subst hct; subst f5'
          exact (sim_to hs' hdr h (m_cond hv) ⟨rfl, hk⟩).n
        · cases h
      | region id ops draw =>
        simp only at h
        split at h
        · obtain ⟨cfn, ctmps, ctodo, cds, cmode, ckind, cro⟩ := fr
          simp only at hct f5'; subst hct; subst f5'
          exact (sim_to hs' hdr h m_region ⟨⟨_, rfl, range_ops ops⟩, hk⟩).n
        · split at h
          · rename_i d hmix hd
            exact sim_begin hs' hdr hm ht hmix hd h
          · cases h
    · rename_i id k ht
      rw [ht] at f3
      obtain ⟨ci, ck, hct, hci, hk⟩ := All2.cons_left.1 f3
      simp only [IR] at hci; subst hci
      obtain ⟨cfn, ctmps, ctodo, cds, cmode, ckind, cro⟩ := fr
      simp only at hct f5'; subst hct; subst f5'
      exact (sim_to hs' hdr h m_inBlock hk).n
    · rename_i c k ht
      rw [ht] at f3
      obtain ⟨ci, ck, hct, hci, hk⟩ := All2.cons_left.1 f3
      simp only [IR] at hci; subst hci
      obtain ⟨cfn, ctmps, ctodo, cds, cmode, ckind, cro⟩ := fr
      simp only at hct f5'; subst hct; subst f5'
      exact (sim_to hs' hdr h m_inScope hk).n
    · rename_i c k ht
      rw [ht] at f3
      obtain ⟨ci, ck, hct, hci, hk⟩ := All2.cons_left.1 f3
      simp only [IR] at hci; subst hci
      obtain ⟨cfn, ctmps, ctodo, cds, cmode, ckind, cro⟩ := fr
      simp only at hct f5'; subst hct; subst f5'
      exact (sim_to hs' hdr h m_inLoop ⟨rfl, rfl, hk⟩).n
    · cases h
    · rename_i k ht
      rw [ht] at f3
      obtain ⟨ci, ck, hct, hci, hk⟩ := All2.cons_left.1 f3
      simp only [IR] at hci; subst hci
      split at h
      · rename_i l hro
        have h7 := f7
        rw [hro] at h7
        obtain ⟨L, hL, hro'⟩ := h7
        split at h
        · rename_i r hl
          split at h
          · rename_i hst
            cases h
            obtain ⟨tmps, D, g0, g1, g2, g3, g4⟩ := loop_get (P := P) hh hl hL
            have hset := loop_set (r' := { r with state := .busy }) hh hl hL (tmps := tmps) (D := D) g2 g3 g0
            have hrun : (Instr.beginRound L.B).run P w = .ok () (setB w L.B (.loop { state := .busy, pending := r.pending, fn := r.fn, tmps, params := r.params.toArray, assign := r.assign, body := r.body, defers := D })) := by
              simp only [Instr.beginRound, Sem.run_bind, g4, Result.andThen_ok, setObj_run g1 (fun _ _ _ => by simp), hst, Sem.run_pure]
            obtain ⟨cfn, ctmps, ctodo, cds, cmode, ckind, cro⟩ := fr
            simp only at hct f5' hro'; subst hct; subst f5'; subst hro'
            exact ⟨N, φ, _, cs, _, rfl, φ.le_refl, m_beginRound hrun, ⟨.mk hdr ⟨f1, f2, hk, f4, f5, f6, f7⟩, hcs, hset, hb.trans (below_setB _ g0), by rw [setB_size]; exact hN⟩⟩
          · cases h
        · cases h
      · cases h
    · rename_i l k ht
      rw [ht] at f3
      obtain ⟨ci, ck, hct, ⟨L, hL, hci⟩, hk⟩ := All2.cons_left.1 f3
      subst hci
      split at h
      · rename_i r hl
        obtain ⟨tmps, D, g0, g1, g2, g3, g4⟩ := loop_get (P := P) hh hl hL
        split at h
        · cases h
        · rename_i hst
          have hset := loop_set (r' := { r with state := .exhausted }) hh hl hL (tmps := tmps) (D := D) g2 g3 g0
          have hrun : (Instr.endLoop L.B).run P w = .ok r.pending (setB w L.B (.loop { state := .exhausted, pending := r.pending, fn := r.fn, tmps, params := r.params.toArray, assign := r.assign, body := r.body, defers := D })) := by
            have hne : (r.state == LoopState.busy) = false := by
              cases hrs : r.state with
              | busy => exact absurd hrs hst
              | ready => rfl
              | done => rfl
              | exhausted => rfl
            simp only [Instr.endLoop, Sem.run_bind, g4, Result.andThen_ok, hne, Bool.false_eq_true, if_false, setObj_run g1 (fun _ _ _ => by simp), Sem.run_pure]
          obtain ⟨cfn, ctmps, ctodo, cds, cmode, ckind, cro⟩ := fr
          simp only at hct f5'; subst hct; subst f5'
          have hst := m_endRange (P := P) (fn := cfn) (tmps := ctmps) (k := ck) (ds := cds) (kd := ckind) (ro := cro) (cs := cs ++ bot) hrun
          split at h
          · rename_i c hc
            cases h
            rw [show (r.pending.map Item.code).toList ++ ck = .code c :: ck by rw [hc]; rfl] at hst
            exact ⟨N, φ, _, cs, _, rfl, φ.le_refl, hst, ⟨.mk hdr ⟨f1, f2, ⟨rfl, hk⟩, f4, f5, f6, f7⟩, hcs, hset, hb.trans (below_setB _ g0), by rw [setB_size]; exact hN⟩⟩
          · rename_i hc
            cases h
            rw [show (r.pending.map Item.code).toList ++ ck = ck by rw [hc]; rfl] at hst
            exact ⟨N, φ, _, cs, _, rfl, φ.le_refl, hst, ⟨.mk hdr ⟨f1, f2, hk, f4, f5, f6, f7⟩, hcs, hset, hb.trans (below_setB _ g0), by rw [setB_size]; exact hN⟩⟩
      · cases h
  · rename_i hm
    exact (sim_unwind hs hdr (fun e => hm e) h).n

theorem sim_step (hK : HookOk P K) (hs : SR N w0 φ s fr cs w) (h : stepA P K s = some s') : GoesN P N w0 bot φ fr cs w s' := by
  unfold stepA at h
  split at h
  · rename_i hd; exact sim_step1 hK hs hd h
  · rename_i d hd
    split at h
    · rename_i hm; exact sim_draw hK hs hd hm h
    · cases h

/-- The whole run. -/
theorem sim_run (hK : HookOk P K) {f : FuncId} : ∀ (n : Nat) (N : NN) (φ : Phi) (s : S) (fr : Frame) (cs : List Frame) (w : World) (v : AV) (h' : H), SR N w0 φ s fr cs w → runA P K f n s = some (v, h') →
    ∃ N' : NN, ∃ φ' fr' w' cv, N'.n = N.n ∧ φ.le φ' ∧ Steps P (lone fr (cs ++ bot) w) (lone fr' bot w') ∧ fr'.fn = f ∧ fr'.leaving P w' (.returned cv) ∧ VR φ' v cv ∧ HR N' φ' h' w' ∧ Below N.n w0 w'
  | 0, _, _, _, _, _, _, _, _, _, h => by cases h
  | n + 1, N, φ, s, fr, cs, w, v, h', hs, h => by
    simp only [runA] at h
    split at h
    · rename_i hm hd hc
      split at h
      · rename_i v' hf hk hdn
        cases h
        unfold doneA at hdn
        split at hdn
        · rename_i hdr _ _ _
          obtain ⟨hF, hcs, hh, hb, hN⟩ := hs
          obtain ⟨f1, f2, f3, f4, f5, f6, f7⟩ := hF.un hdr
          rw [hc] at hcs
          replace hcs : cs = [] := hcs
          subst hcs
          rw [hm] at f5; simp only [MR] at f5
          rw [hd, All2.nil_left] at f4
          have hf' := Nat.eq_of_beq_eq_true hf
          split at hdn
          · rename_i fn hfn
            obtain ⟨cv, r1, r2⟩ := resA_rel (P := P) hh f2 hdn
            exact ⟨N, φ, fr, w, cv, rfl, φ.le_refl, Steps.refl P _, f1.trans hf', ⟨f5, f4, f6.trans hk, fn, by rw [f1]; exact hfn, r1⟩, r2, hh, hb⟩
          · cases hdn
        · cases hdn
      · cases h
    · split at h
      · rename_i s1 hst
        obtain ⟨N1, φ1, fr1, cs1, w1, e1, l1, st1, sr1⟩ := sim_step hK (bot := bot) hs hst
        obtain ⟨N2, φ2, fr2, w2, cv, e2, l2, st2, r1, r2, r3, r4, r5⟩ := sim_run hK n N1 φ1 s1 fr1 cs1 w1 v h' sr1 h
        exact ⟨N2, φ2, fr2, w2, cv, e2.trans e1, Phi.le_trans l1 l2, Steps.trans st1 st2, r1, r2, r3, r4, by rw [← e1]; exact r5⟩
      · cases h

/-- WHAT THE EVALUATOR RECKONS FOR A CALL IS WHAT THE CALL DOES. -/
theorem calls_of_callA (hK : HookOk P K) {n : Nat} {f : FuncId} {args : List AV} {cargs : Array Value} {h h' : H} {v : AV} (hc : callA P K n f args h = some (v, h')) (hr : HR N φ h w) (hN : N ≤ w.heap.size)
    (ha : All2 (VR φ) args cargs.toList) : Calls P f cargs w fun e w' => ∃ N' : NN, ∃ φ' cv, N'.n = N.n ∧ e = .returned cv ∧ φ.le φ' ∧ VR φ' v cv ∧ HR N' φ' h' w' ∧ Below N.n w w' := by
  intro bot
  unfold callA at hc
  split at hc
  · rename_i fr0 hen
    have hsr : SR N w φ { fr := fr0, cs := [], h } (Frame.enter P f cargs .normal) [] w := ⟨.mk (enter_dr hen) (enter_rel ha hen), rfl, hr, Below.refl _ _, hN⟩
    obtain ⟨N', φ', fr', w', cv, e, l, st, hf, hl, hv, hh, hb⟩ := sim_run hK (bot := bot) n N φ _ _ _ w v h' hsr hc
    exact ⟨.returned cv, w', fr', ⟨N', φ', cv, e, rfl, l, hv, hh, hb⟩, st, hf, hl⟩
  · cases hc

/-- A heap of nothing stands for every world. -/
theorem HR_empty (n : Nat) (w : World) : HR ⟨w.heap.size, fun _ => none⟩ (fun _ => none) ⟨.e, n, 0⟩ w :=
  ⟨(fun b o h => by cases h), (fun b o b' o' L L' h => by cases h), (fun b _ => rfl), (fun b h => absurd rfl h), fun g h => absurd h (Nat.not_lt_zero g)⟩

end
end Go.AX

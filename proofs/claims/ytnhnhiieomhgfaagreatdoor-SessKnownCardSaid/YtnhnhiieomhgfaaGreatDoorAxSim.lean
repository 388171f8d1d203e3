/-
  AX: a step of the evaluator's is some steps of the machine's.
-/
import Derived.Test.YtnhnhiieomhgfaaGreatDoorAxDraw3
namespace Go.AX
open Go.RowKit

section
variable {P : Program} {K : Hook} {N : NN} {φ : Phi} {w0 w : World} {bot : List Frame} {s s' : S} {fr : Frame} {cs : List Frame}

theorem TR.set {nt : Nat} {tm : T AV} {tmps : Array Value} (tr : TR φ nt tm tmps) {d : Nat} (hd : d < nt) {v : AV} {cv : Value} (hv : VR φ v cv) : TR φ nt (tm.set d (some v)) (tmps.setIfInBounds d cv) := by
  refine ⟨by simp [tr.1], fun i => ?_⟩
  rw [T.get_set]
  by_cases e : i = d
  · subst e
    rw [if_pos rfl, Option.getD_some, Array.getD_eq_getD_getElem?, Array.getElem?_setIfInBounds, if_pos rfl, if_pos (by rw [tr.1]; exact hd)]
    exact hv
  · rw [if_neg e, Array.getD_eq_getD_getElem?, Array.getElem?_setIfInBounds, if_neg (fun x => e x.symm), ← Array.getD_eq_getD_getElem?]
    exact tr.2 i

theorem putD_rel {a : AFrame} {fr : Frame} (tr : TR φ a.nt a.tm fr.tmps) {d : Option Tmp} {v : AV} {cv : Value} (hv : VR φ v cv) :
    TR φ a.nt (a.putD d v) (match d with | some d => fr.tmps.setIfInBounds d cv | none => fr.tmps) := by
  unfold AFrame.putD
  cases d with
  | none => exact tr
  | some d =>
    simp only
    split
    · rename_i h
      exact tr.set (by have := Nat.le_of_ble_eq_true h; omega) hv
    · rename_i h
      have hge : ¬ d < a.nt := fun x => by rw [show Nat.blt d a.nt = true from Nat.ble_eq_true_of_le x] at h; cases h
      have : fr.tmps.setIfInBounds d cv = fr.tmps := by
        rw [Array.setIfInBounds]; rw [dif_neg (by rw [tr.1]; exact hge)]
      rw [this]; exact tr

theorem opsR_cons {ops : Array Oper} {idx : List Nat} {o : Oper} {l : List Oper} (h : idx.map (fun j => ops[j]?) = (o :: l).map some) :
    ∃ i rest, idx = i :: rest ∧ ops[i]? = some o ∧ rest.map (fun j => ops[j]?) = l.map some := by
  cases idx with
  | nil => simp at h
  | cons i rest =>
    simp only [List.map_cons, List.cons.injEq] at h
    exact ⟨i, rest, rfl, h.1, h.2⟩

theorem finish1_rel {c c' : AFrame} {cc : Frame} (hc : FR φ c cc) {v : AV} {cv : Value} (hv : VR φ v cv) (h : c.finish1 v = some c') : FR φ c' (cc.finish cv) := by
  obtain ⟨fn, nt, tm, todo, defers, mode, kind, ro, dr⟩ := c
  obtain ⟨cfn, ctmps, ctodo, cds, cmode, ckind, cro⟩ := cc
  obtain ⟨h1, h2, h3, h4, h5, h6, h7⟩ := hc
  unfold AFrame.finish1 at h
  split at h
  · rename_i ops o l k he
    simp only at he; subst he
    obtain ⟨ci, ck, rfl, hi, hk⟩ := All2.cons_left.1 h3
    obtain ⟨idx, rfl, hidx⟩ := hi
    obtain ⟨i, rest, rfl, ho, hrest⟩ := opsR_cons hidx
    simp only [Option.some.injEq] at h; subst h
    have hput := putD_rel (a := ⟨fn, nt, tm, .ops ops (o :: l) :: k, defers, mode, kind, ro, dr⟩) (fr := ⟨cfn, ctmps, .inRegion ops (i :: rest) :: ck, cds, cmode, ckind, cro⟩) h2 (d := o.dst) hv
    simp only [Frame.finish, ho, Option.bind_some]
    exact ⟨h1, hput, ⟨⟨rest, rfl, hrest⟩, hk⟩, h4, h5, h6, h7⟩
  · rename_i l k he
    simp only at he; subst he
    obtain ⟨ci, ck, rfl, ⟨L, hL, rfl⟩, hk⟩ := All2.cons_left.1 h3
    simp only [Option.some.injEq] at h; subst h
    exact ⟨h1, h2, ⟨⟨L, hL, rfl⟩, hk⟩, h4, h5, h6, h7⟩
  · rename_i k he
    simp only at he; subst he
    obtain ⟨ci, ck, rfl, hi, hk⟩ := All2.cons_left.1 h3
    simp only [IR] at hi; subst hi
    simp only [Option.some.injEq] at h; subst h
    exact ⟨h1, h2, hk, h4, h5, h6, h7⟩
  · cases h

theorem finish1_dr {c c' : AFrame} {v : AV} (h : c.finish1 v = some c') : c'.dr = c.dr := by
  unfold AFrame.finish1 at h
  split at h <;> first | (cases h; rfl) | cases h

/-- A slot gets what an operation hands back; nobody else is still to write it, or what it holds does not count. -/
theorem TX.done {ops : Array Oper} {i : Nat} {o : Oper} {post : List Nat} {a : AFrame} {tmps : Array Value} (tx : TX φ ops (i :: post) a.nt a.tm tmps) (hi : ops[i]? = some o) (hd : dstOk a.nt o.dst = true) {v : AV} {cv : Value} (hv : VR φ v cv) :
    TX φ ops post a.nt (a.putD o.dst v) (match o.dst with | some t => tmps.setIfInBounds t cv | none => tmps) := by
  obtain ⟨h1, h2⟩ := tx
  unfold AFrame.putD
  cases hdst : o.dst with
  | none =>
    refine ⟨h1, fun t ht => h2 t fun j hj => ?_⟩
    simp only [List.mem_cons] at hj
    rcases hj with rfl | hj
    · rw [dstOf_eq hi, hdst]; simp
    · exact ht j hj
  | some t0 =>
    rw [hdst] at hd
    have hlt : t0 < a.nt := Nat.le_of_ble_eq_true hd
    have hd' : Nat.blt t0 a.nt = true := hd
    simp only [hd']
    refine ⟨by simp [h1], fun t ht => ?_⟩
    rw [T.get_set, Array.getD_eq_getD_getElem?, Array.getElem?_setIfInBounds]
    by_cases e : t0 = t
    · subst e
      rw [if_pos rfl, if_pos rfl, if_pos (by rw [h1]; exact hlt)]; exact hv
    · rw [if_neg e, if_neg (fun x => e x.symm), ← Array.getD_eq_getD_getElem?]
      refine h2 t fun j hj => ?_
      simp only [List.mem_cons] at hj
      rcases hj with rfl | hj
      · rw [dstOf_eq hi, hdst]; simpa using e
      · exact ht j hj

theorem finish_rel {k : Nat} {c c' : AFrame} {cc : Frame} (hc : F2 N k φ c cc) {v : AV} {cv : Value} (hv : VR φ v cv) (h : c.finish v = some c') : F2 N k φ c' (cc.finish cv) := by
  cases hd : c.dr with
  | none =>
    unfold AFrame.finish at h
    rw [hd] at h
    simp only at h
    exact .mk ((finish1_dr h).trans hd) (finish1_rel (hc.un hd) hv h)
  | some d =>
    unfold AFrame.finish at h
    rw [hd] at h
    simp only at h
    obtain ⟨idx, ck, hx⟩ := hc.und hd
    obtain ⟨g1, g2, g3, g4, g5, g6, g7, g8, g9, g10⟩ := hx
    unfold AFrame.finishD at h
    split at h
    · rename_i i o rem hw hr
      split at h
      · rename_i hdst
        cases h
        obtain ⟨post, rfl, ho, hdw⟩ := g5.back hw hr
        obtain ⟨cfn, ctmps, ctodo, cds, cmode, ckind, cro⟩ := cc
        simp only at g2; subst g2
        refine .mkd (d := { d with rem, wait := false }) rfl (idx := post) (ck := ck) ⟨g1, rfl, ?_, g4, hdw, fun p h1 h2 h3 => g6 p h1 (by simp [h2]) h3, g7, g8, g9, g10⟩
        simp only [Frame.finish, ho, Option.bind_some]
        exact g3.done ho hdst hv
      · cases h
    · cases h

theorem raise1_rel {c : AFrame} {cc : Frame} (hc : FR φ c cc) {l : List APanic} {l' : List PanicEntry} (hl : All2 (PR φ) l l') : FR φ (c.raise1 l) (cc.raise l') := by
  obtain ⟨fn, nt, tm, todo, defers, mode, kind, ro, dr⟩ := c
  obtain ⟨cfn, ctmps, ctodo, cds, cmode, ckind, cro⟩ := cc
  obtain ⟨h1, h2, h3, h4, h5, h6, h7⟩ := hc
  cases mode with
  | run => simp only [MR] at h5; subst h5; exact ⟨h1, h2, h3, h4, ⟨l', rfl, hl⟩, h6, h7⟩
  | returning => simp only [MR] at h5; subst h5; exact ⟨h1, h2, h3, h4, ⟨l', rfl, hl⟩, h6, h7⟩
  | panicking ch => obtain ⟨ch', e, hch⟩ := h5; simp only at e; subst e; exact ⟨h1, h2, h3, h4, ⟨_, rfl, hl.append hch⟩, h6, h7⟩

theorem finish_1 {c c' : AFrame} {v : AV} (hd : c.dr = none) (h : c.finish v = some c') : c.finish1 v = some c' := by
  unfold AFrame.finish at h; rw [hd] at h; exact h
theorem finish_dr' {c c' : AFrame} {v : AV} (hd : c.dr = none) (h : c.finish v = some c') : c'.dr = none :=
  (finish1_dr (finish_1 hd h)).trans hd

theorem F2.mode {k : Nat} {c : AFrame} {cc : Frame} (h : F2 N k φ c cc) : MR φ c.mode cc.mode := by
  cases hd : c.dr with
  | none => exact (h.un hd).mode
  | some d => obtain ⟨idx, ck, x⟩ := h.und hd; exact x.mode

theorem F2.withMode {k : Nat} {c : AFrame} {cc : Frame} (h : F2 N k φ c cc) {m : AMode} {m' : FrameMode} (hm : MR φ m m') : F2 N k φ { c with mode := m } { cc with mode := m' } := by
  cases hd : c.dr with
  | none => have x := h.un hd; exact .mk rfl ⟨x.fn, x.tm, x.todo, x.defers, hm, x.kind, x.round⟩
  | some d => obtain ⟨idx, ck, x⟩ := h.und hd; exact .mkd (d := d) rfl ⟨x.fn, x.here, x.tm, x.todo, x.dw, x.lag, x.defers, hm, x.kind, x.round⟩

theorem raise_rel {k : Nat} {c c' : AFrame} {cc : Frame} (hc : F2 N k φ c cc) {l : List APanic} {l' : List PanicEntry} (hl : All2 (PR φ) l l') (h : c.raise l = some c') : F2 N k φ c' (cc.raise l') := by
  unfold AFrame.raise at h
  split at h
  · rename_i hd
    cases h
    exact .mk hd (raise1_rel (hc.un hd) hl)
  · cases h

theorem exitTo_rel {id : Nat} : ∀ {k : List AItem} {ck : List Item}, All2 (IR φ) k ck →
    (∀ k', aExitTo id k = some k' → ∃ ck', exitTo id ck = some ck' ∧ All2 (IR φ) k' ck') ∧ (aExitTo id k = none → exitTo id ck = none)
  | [], ck, h => by rw [All2.nil_left] at h; subst h; exact ⟨fun _ h => by simp [aExitTo] at h, fun _ => rfl⟩
  | i :: k, ck, h => by
    obtain ⟨ci, cr, rfl, hi, hk⟩ := All2.cons_left.1 h
    obtain ⟨ih1, ih2⟩ := exitTo_rel (id := id) hk
    cases i with
    | inBlock id' =>
      simp only [IR] at hi; subst hi
      simp only [aExitTo, exitTo]
      cases hb : Nat.beq id' id
      · have := Nat.ne_of_beq_eq_false hb
        have e : (id' == id) = false := by simp [this]
        simp only [e, Bool.false_eq_true, if_false]
        exact ⟨ih1, ih2⟩
      · have := Nat.eq_of_beq_eq_true hb
        subst this
        simp only [beq_self_eq_true, if_true]
        exact ⟨fun k' h => by simp only [Option.some.injEq] at h; subst h; exact ⟨_, rfl, hk⟩, fun h => by cases h⟩
    | code c => simp only [IR] at hi; subst hi; exact ⟨ih1, ih2⟩
    | inLoop c => simp only [IR] at hi; subst hi; exact ⟨ih1, ih2⟩
    | inScope c => simp only [IR] at hi; subst hi; exact ⟨ih1, ih2⟩
    | ops o l => obtain ⟨idx, rfl, _⟩ := hi; exact ⟨ih1, ih2⟩
    | inRangeFunc l => obtain ⟨L, _, rfl⟩ := hi; exact ⟨ih1, ih2⟩
    | endRangeFunc l => obtain ⟨L, _, rfl⟩ := hi; exact ⟨ih1, ih2⟩
    | beginRound => simp only [IR] at hi; subst hi; exact ⟨ih1, ih2⟩

theorem gotoIn_rel {id : Nat} : ∀ {k : List AItem} {ck : List Item}, All2 (IR φ) k ck →
    (∀ k', aGotoIn id k = some k' → ∃ ck', gotoIn id ck = some ck' ∧ All2 (IR φ) k' ck') ∧ (aGotoIn id k = none → gotoIn id ck = none)
  | [], ck, h => by rw [All2.nil_left] at h; subst h; exact ⟨fun _ h => by simp [aGotoIn] at h, fun _ => rfl⟩
  | i :: k, ck, h => by
    obtain ⟨ci, cr, rfl, hi, hk⟩ := All2.cons_left.1 h
    obtain ⟨ih1, ih2⟩ := gotoIn_rel (id := id) hk
    cases i with
    | inScope c =>
      simp only [IR] at hi; subst hi
      simp only [aGotoIn, gotoIn]
      cases hb : findLabel c id with
      | none => exact ⟨ih1, ih2⟩
      | some rest => exact ⟨fun k' h => by simp only [Option.some.injEq] at h; subst h; exact ⟨_, rfl, rfl, rfl, hk⟩, fun h => by cases h⟩
    | code c => simp only [IR] at hi; subst hi; exact ⟨ih1, ih2⟩
    | inLoop c => simp only [IR] at hi; subst hi; exact ⟨ih1, ih2⟩
    | inBlock c => simp only [IR] at hi; subst hi; exact ⟨ih1, ih2⟩
    | ops o l => obtain ⟨idx, rfl, _⟩ := hi; exact ⟨ih1, ih2⟩
    | inRangeFunc l => obtain ⟨L, _, rfl⟩ := hi; exact ⟨ih1, ih2⟩
    | endRangeFunc l => obtain ⟨L, _, rfl⟩ := hi; exact ⟨ih1, ih2⟩
    | beginRound => simp only [IR] at hi; subst hi; exact ⟨ih1, ih2⟩

theorem VR_bool_inv {a : AV} {b : Bool} (h : VR φ a (.bool b)) : a = .bool b := by
  cases a with
  | slice b o len c => obtain ⟨a, c, e⟩ := VR_slice_some h; cases e
  | bool b => simp at h; rw [h]
  | _ => simp at h

theorem wanted_rel {a : AFrame} {fr : Frame} (tr : TR φ a.nt a.tm fr.tmps) (ops : Array Oper) (o : Oper) : wantedA a ops o = Region.wanted o (yielded ops fr.tmps) := by
  unfold wantedA Region.wanted
  cases hg : o.guard with
  | none => rfl
  | some x =>
    obtain ⟨j, want⟩ := x
    simp only [yielded, Array.getElem?_toList]
    cases hj : ops[j]? with
    | none => simp
    | some oj =>
      simp only [Option.bind_some]
      cases hd : oj.dst with
      | none => simp
      | some d =>
        simp only [Option.bind_some]
        have hr := tr.2 d
        cases ht : a.tm.get d with
        | none =>
          rw [ht] at hr
          simp only
          cases hc : fr.tmps[d]? with
          | none => simp
          | some c =>
            have e : fr.tmps.getD d undef = c := by rw [Array.getD_eq_getD_getElem?, hc]; rfl
            rw [e] at hr
            cases c with
            | bool b => have := VR_bool_inv hr; simp [und] at this
            | _ => simp
        | some v =>
          rw [ht, Option.getD_some] at hr
          cases hc : fr.tmps[d]? with
          | none =>
            have e : fr.tmps.getD d undef = undef := by rw [Array.getD_eq_getD_getElem?, hc]; rfl
            rw [e] at hr
            cases v with
            | bool b => simp [undef] at hr
            | _ => simp
          | some c =>
            have e : fr.tmps.getD d undef = c := by rw [Array.getD_eq_getD_getElem?, hc]; rfl
            rw [e] at hr
            cases v with
            | bool b =>
              simp only [VR_bool] at hr; subst hr
              simp
            | _ =>
              cases c with
              | bool b => have := VR_bool_inv hr; simp at this
              | _ => simp

theorem range_ops (ops : Array Oper) : (List.range ops.size).map (fun j => ops[j]?) = ops.toList.map some := by
  apply List.ext_getElem?
  intro i
  rw [List.getElem?_map, List.getElem?_map]
  by_cases h : i < ops.size
  · simp [h]
  · rw [List.getElem?_eq_none (by simp; omega), List.getElem?_eq_none (by simp; omega)]; rfl

/-- Steps of the machine's lead on to where the evaluator's state is. -/
def Goes (P : Program) (N : NN) (w0 : World) (bot : List Frame) (φ : Phi) (fr : Frame) (cs : List Frame) (w : World) (s' : S) : Prop :=
  ∃ φ' fr' cs' w', φ.le φ' ∧ Steps P (lone fr (cs ++ bot) w) (lone fr' (cs' ++ bot) w') ∧ SR N w0 φ' s' fr' cs' w'


theorem sim_to {k : List AItem} {ck : List Item} (hs : SR N w0 φ s fr cs w) (hd : s.fr.dr = none) (h : to s k = some s')
    (hst : Steps P (lone fr (cs ++ bot) w) (lone { fr with todo := ck } (cs ++ bot) w)) (hk : All2 (IR φ) k ck) : Goes P N w0 bot φ fr cs w s' := by
  simp only [to, Option.some.injEq] at h; subst h
  have hf := hs.fr.un hd
  exact ⟨φ, { fr with todo := ck }, cs, w, φ.le_refl, hst, .mk hd ⟨hf.fn, hf.tm, hk, hf.defers, hf.mode, hf.kind, hf.round⟩, hs.cs, hs.h, hs.below, hs.size⟩

theorem loop_get {h : H} (hr : HR N φ h w) {l : Nat} {r : ALoop} {L : Loc} (hb : h.t.get l = some (.loop r)) (hL : φ l = some L) :
    ∃ tmps D, N ≤ L.B ∧ w.heap[L.B]? = some (.loop { state := r.state, pending := r.pending, fn := r.fn, tmps, params := r.params.toArray, assign := r.assign, body := r.body, defers := D }) ∧
      TR φ r.nt r.tm tmps ∧ (∃ M, φ r.defers = some M ∧ D = M.B) ∧
      (Instr.getLoop L.B).run P w = .ok { state := r.state, pending := r.pending, fn := r.fn, tmps, params := r.params.toArray, assign := r.assign, body := r.body, defers := D } w := by
  obtain ⟨hN, tmps, D, h1, h2, h3⟩ := hr.get hb hL
  refine ⟨tmps, D, hN, h1, h2, h3, ?_⟩
  simp only [Instr.getLoop, Sem.run_bind, getObj_run h1 (fun _ _ _ => by simp), Result.andThen_ok, Sem.run_pure]

/-- A loop's record is written anew. -/
theorem loop_set {h : H} (hr : HR N φ h w) {l : Nat} {r r' : ALoop} {L : Loc} (hb : h.t.get l = some (.loop r)) (hL : φ l = some L) {tmps : Array Value} {D : Nat}
    (ht : TR φ r'.nt r'.tm tmps) (hd : ∃ M, φ r'.defers = some M ∧ D = M.B) (hN : N ≤ L.B) :
    HR N φ { h with t := h.t.set l (some (.loop r')) } (setB w L.B (.loop { state := r'.state, pending := r'.pending, fn := r'.fn, tmps, params := r'.params.toArray, assign := r'.assign, body := r'.body, defers := D })) := by
  have hlt := (hr.get hb hL).lt
  exact hr.set hb hL _ (fun k hk => by rw [setB_get hlt, if_neg hk]) ⟨hN, tmps, D, by rw [setB_get hlt, if_pos rfl], ht, hd⟩

theorem doRet_normal {v : AV} {cv : Value} {h : H} {c : AFrame} {cs' : List AFrame} (hcs : s.cs = c :: cs') (hk : s.fr.kind = .normal) (hd : doRet s v h = some s')
    (hr : CS N φ s.cs cs) (hv : VR φ v cv) (hh : HR N φ h w) (hb : Below N w0 w) (hN : N ≤ w.heap.size) :
    ∃ cc ccs, cs = cc :: ccs ∧ SR N w0 φ s' (cc.finish cv) ccs w := by
  unfold doRet at hd
  rw [hcs] at hr hd
  obtain ⟨cc, ccs, rfl, h1, h2⟩ := hr
  simp only [hk] at hd
  split at hd
  · rename_i c' hf
    cases hd
    exact ⟨cc, ccs, rfl, finish_rel h1 hv hf, h2, hh, hb, hN⟩
  · cases hd

/-- A round ends; the jump that it ends with. -/
theorem sim_endRound {l : Nat} {jump : Option Code} (hs : SR N w0 φ s fr cs w) (hdr : s.fr.dr = none) (hro : s.fr.roundOf = some l) (hm : s.fr.mode = .run) (h : leaveA s jump = some s')
    (ht : fr.todo = [] ∧ jump = none ∨ (∃ k, fr.todo = .code .ret :: k) ∧ jump = some .ret ∨ (∃ id k, fr.todo = .code (.exit id) :: k ∧ exitTo id k = none ∧ jump = some (.exit id)) ∨ ∃ id k, fr.todo = .code (.goto id) :: k ∧ gotoIn id k = none ∧ jump = some (.goto id)) :
    Goes P N w0 bot φ fr cs w s' := by
  obtain ⟨hF, hcs, hh, hb, hN⟩ := hs
  obtain ⟨f1, f2, f3, f4, f5, f6, f7⟩ := hF.un hdr
  unfold leaveA at h
  rw [hro] at h
  simp only at h
  split at h
  · rename_i r hk hl
    have h7 := f7
    rw [hro] at h7
    obtain ⟨L, hL, hro'⟩ := h7
    obtain ⟨tmps, D, g0, g1, g2, g3, g4⟩ := loop_get (P := P) hh hl hL
    obtain ⟨r', hr'⟩ : ∃ r' : ALoop, r' = { r with state := endSt jump, pending := jump } := ⟨_, rfl⟩
    rw [← hr'] at h
    have hset := loop_set (r' := r') hh hl hL (tmps := tmps) (D := D) (by rw [hr']; exact g2) (by rw [hr']; exact g3) g0
    have hrun : (Instr.endRound L.B jump).run P w = .ok (.bool jump.isNone) (setB w L.B (.loop { state := r'.state, pending := r'.pending, fn := r'.fn, tmps, params := r'.params.toArray, assign := r'.assign, body := r'.body, defers := D })) := by
      simp only [Instr.endRound, Sem.run_bind, g4, Result.andThen_ok, setObj_run g1 (fun _ _ _ => by simp), Sem.run_pure, hr']
      cases jump <;> rfl
    cases hc : s.cs with
    | nil => unfold doRet at h; rw [hc] at h; cases h
    | cons c cs' =>
      obtain ⟨cc, ccs, rfl, hsr⟩ := doRet_normal hc hk h hcs (VR_bool.2 rfl) hset (hb.trans (below_setB _ g0)) (by rw [setB_size]; exact hN)
      refine ⟨φ, _, ccs, _, φ.le_refl, ?_, hsr⟩
      obtain ⟨cfn, ctmps, ctodo, cds, cmode, ckind, cro⟩ := fr
      simp only at f6 hro' ht
      rw [hm] at f5; simp only [MR] at f5
      rw [hk] at f6
      subst f6; subst f5; subst hro'
      exact m_endRound ht hrun
  · cases h

/-- A frame's work is done, or it jumps where no block of it is. -/
theorem sim_leave {jump : Option Code} (hs : SR N w0 φ s fr cs w) (hdr : s.fr.dr = none) (hm : s.fr.mode = .run) (h : leaveA s jump = some s')
    (ht : fr.todo = [] ∧ jump = none ∨ (∃ k, fr.todo = .code .ret :: k) ∧ jump = some .ret ∨ (∃ id k, fr.todo = .code (.exit id) :: k ∧ exitTo id k = none ∧ jump = some (.exit id)) ∨ ∃ id k, fr.todo = .code (.goto id) :: k ∧ gotoIn id k = none ∧ jump = some (.goto id)) :
    Goes P N w0 bot φ fr cs w s' := by
  cases hro : s.fr.roundOf with
  | some l => exact sim_endRound hs hdr hro hm h ht
  | none =>
    obtain ⟨hF, hcs, hh, hb, hN⟩ := hs
    obtain ⟨f1, f2, f3, f4, f5, f6, f7⟩ := hF.un hdr
    unfold leaveA at h
    rw [hro] at h
    simp only at h
    rw [hro] at f7
    simp only [RoR] at f7
    rw [hm] at f5; simp only [MR] at f5
    obtain ⟨cfn, ctmps, ctodo, cds, cmode, ckind, cro⟩ := fr
    simp only at f5 f7 ht
    subst f5; subst f7
    rcases ht with ⟨rfl, rfl⟩ | ⟨⟨k, rfl⟩, rfl⟩ | ⟨id, k, rfl, hk, rfl⟩ | ⟨id, k, rfl, hk, rfl⟩
    · cases h
      exact ⟨φ, _, cs, w, φ.le_refl, m_end, ⟨.mk hdr ⟨f1, f2, f3, f4, rfl, f6, by rw [hro]; rfl⟩, hcs, hh, hb, hN⟩⟩
    · cases h
      exact ⟨φ, _, cs, w, φ.le_refl, m_ret, ⟨.mk hdr ⟨f1, f2, f3, f4, rfl, f6, by rw [hro]; rfl⟩, hcs, hh, hb, hN⟩⟩
    · cases h
    · cases h

/-- A function is entered. -/
theorem enter_rel {f : FuncId} {args : List AV} {cargs : Array Value} {kd : CallKind} {a : AFrame} (ha : All2 (VR φ) args cargs.toList) (h : enterA P f args kd = some a) :
    FR φ a (Frame.enter P f cargs kd) := by
  unfold enterA at h
  split at h
  · rename_i fn hf
    split at h
    · rename_i c hc
      cases h
      refine ⟨rfl, ⟨?_, fun i => ?_⟩, ?_, trivial, rfl, rfl, rfl⟩
      · have := ha.length
        simp only [Array.length_toList] at this
        simp only [Frame.enter, hf, Option.map_some, Option.getD_some, Array.size_append, Array.size_replicate, this, Nat.max_def]
        split <;> omega
      · simp only [Frame.enter, hf, Option.map_some, Option.getD_some, T.get_fill0]
        rw [Array.getD_eq_getD_getElem?]
        cases hi : args[i]? with
        | some v =>
          obtain ⟨cv, hcv, hR⟩ := ha.get hi
          rw [Array.getElem?_toList] at hcv
          have hlt : i < cargs.size := (Array.getElem?_eq_some_iff.1 hcv).1
          rw [Array.getElem?_append_left hlt, hcv]
          exact hR
        | none =>
          have hge : cargs.size ≤ i := by
            have := List.getElem?_eq_none_iff.1 hi
            have h2 := ha.length
            simp only [Array.length_toList] at h2
            omega
          rw [Array.getElem?_append_right hge, Array.getElem?_replicate]
          split
          · exact VR_und
          · exact VR_und
      · simp only [Frame.enter, hf, Option.bind_some, hc, Option.getD_some]
        exact ⟨rfl, trivial⟩
    · cases h
  · cases h

theorem enter_dr {f : FuncId} {args : List AV} {kd : CallKind} {a : AFrame} (h : enterA P f args kd = some a) : a.dr = none := by
  unfold enterA at h
  split at h
  · split at h
    · cases h; rfl
    · cases h
  · cases h

theorem setParams_rel {nt : Nat} : ∀ {ps : List Tmp} {args : List AV} {tm tm' : T AV} {tmps : Array Value} {cargs : List Value}, setParams nt tm ps args = some tm' → TR φ nt tm tmps → All2 (VR φ) args cargs →
    TR φ nt tm' ((ps.zip cargs).foldl (fun t (x : Tmp × Value) => t.setIfInBounds x.1 x.2) tmps) ∧ ps.length = cargs.length
  | [], [], tm, tm', tmps, cargs, h, tr, ha => by
    rw [All2.nil_left] at ha; subst ha
    simp only [setParams, Option.some.injEq] at h; subst h
    exact ⟨tr, rfl⟩
  | p :: ps, a :: args, tm, tm', tmps, cargs, h, tr, ha => by
    obtain ⟨c, cr, rfl, h1, h2⟩ := All2.cons_left.1 ha
    simp only [setParams] at h
    split at h
    · rename_i hb
      have hlt : p < nt := Nat.le_of_ble_eq_true hb
      obtain ⟨g1, g2⟩ := setParams_rel h (tr.set hlt h1) h2
      exact ⟨g1, by simp [g2]⟩
    · cases h
  | [], _ :: _, _, _, _, _, h, _, _ => by cases h
  | _ :: _, [], _, _, _, _, h, _, _ => by cases h

theorem recover_rel {a : AFrame} {fr : Frame} (hk : fr.kind = a.kind) {acs : List AFrame} {cs : List Frame} (hcs : CS N φ acs cs) {v : AV} {acs' : List AFrame} (h : recoverA a acs = some (v, acs')) :
    (∃ cv cs', tryRecover fr (cs ++ bot) = some (cv, cs' ++ bot) ∧ VR φ v cv ∧ CS N φ acs' cs') ∨ tryRecover fr (cs ++ bot) = none ∧ v = .nilIface ∧ acs' = acs := by
  unfold recoverA at h
  split at h
  · rename_i hkn
    cases h
    right
    refine ⟨?_, rfl, rfl⟩
    rw [← hk] at hkn
    unfold tryRecover
    rw [hkn]
  · rename_i c rest hkn
    rw [← hk] at hkn
    obtain ⟨cc, cr, rfl, h1, h2⟩ := hcs
    have f5 := h1.mode
    split at h
    · rename_i v' older hm
      cases h
      left
      rw [hm] at f5
      obtain ⟨l', e, hl⟩ := f5
      obtain ⟨pe, lr, rfl, ⟨p1, p2, p3⟩, hl2⟩ := All2.cons_left.1 hl
      obtain ⟨pv, pr, pg⟩ := pe
      simp only at p1 p2 p3; subst p1; subst p2
      have hnew := h1.withMode (m := .panicking ({ v := v, recovered := true } :: older)) (m' := .panicking ({ v := pv, recovered := true } :: lr)) ⟨_, rfl, ⟨rfl, rfl, p3⟩, hl2⟩
      obtain ⟨cfn, ctmps, ctodo, cds, cmode, ckind, cro⟩ := cc
      simp only at e; subst e
      refine ⟨pv, ⟨cfn, ctmps, ctodo, cds, .panicking ({ v := pv, recovered := true } :: lr), ckind, cro⟩ :: cr, ?_, p3, ⟨_, _, rfl, hnew, h2⟩⟩
      unfold tryRecover
      rw [hkn]
      rfl
    · rename_i hm
      cases h
      right
      refine ⟨?_, rfl, rfl⟩
      unfold tryRecover
      rw [hkn]
      simp only [List.cons_append]
      cases hcm : c.mode with
      | run => rw [hcm] at f5; simp only [MR] at f5; rw [f5]
      | returning => rw [hcm] at f5; simp only [MR] at f5; rw [f5]
      | panicking ch =>
        rw [hcm] at f5
        obtain ⟨l', e, hl⟩ := f5
        rw [e]
        cases ch with
        | nil => rw [All2.nil_left] at hl; subst hl; rfl
        | cons p older =>
          obtain ⟨pe, lr, rfl, ⟨p1, p2, p3⟩, hl2⟩ := All2.cons_left.1 hl
          obtain ⟨pv, pr, pg⟩ := pe
          obtain ⟨av, ar⟩ := p
          simp only at p1 p2; subst p1; subst p2
          cases pr with
          | true => rfl
          | false => exact absurd hcm (hm _ _)
  · cases h

theorem yield_run {h : H} (hr : HR N φ h w) {l : Nat} {r : ALoop} {L : Loc} (hb : h.t.get l = some (.loop r)) (hL : φ l = some L) {args : List AV} {cargs : Array Value} {tm : T AV}
    (ha : All2 (VR φ) args cargs.toList) (hp : setParams r.nt r.tm r.params args = some tm) :
    ∃ tmps, (Instr.yield L.B cargs).run P w = .ok (.round L.B r.fn tmps r.assign r.body) w ∧ TR φ r.nt tm tmps := by
  obtain ⟨tmps, D, g0, g1, g2, g3, g4⟩ := loop_get (P := P) hr hb hL
  obtain ⟨p1, p2⟩ := setParams_rel hp g2 ha
  refine ⟨_, ?_, p1⟩
  have hsz : ¬ (cargs.size ≠ r.params.toArray.size) := by
    simp only [List.size_toArray, p2, Array.length_toList, ne_eq, not_true_eq_false, not_false_eq_true]
  simp only [Instr.yield, Sem.run_bind, g4, Result.andThen_ok, hsz, if_false, Sem.run_pure]
  congr 3
  rw [← Array.foldl_toList, Array.toList_zip]


/-- An operation is applied. -/
theorem sim_apply (hK : HookOk P K) {ops : Array Oper} {o : Oper} {l : List Oper} {k : List AItem} (hs : SR N w0 φ s fr cs w) (hdr : s.fr.dr = none) (hm : s.fr.mode = .run) (ht : s.fr.todo = .ops ops (o :: l) :: k)
    (hw : wantedA s.fr ops o = true) (h : applyA P K s (execA P s.fr.tm s.h o.op) = some s') : Goes P N w0 bot φ fr cs w s' := by
  obtain ⟨hF, hcs, hh, hb, hN⟩ := hs
  have hf := hF.un hdr
  have hf' := hf
  obtain ⟨f1, f2, f3, f4, f5, f6, f7⟩ := hf
  rw [hm] at f5; simp only [MR] at f5
  rw [ht] at f3
  obtain ⟨ci, ck, hct, ⟨idx, hidx0, hidx⟩, hk⟩ := All2.cons_left.1 f3
  subst hidx0
  obtain ⟨i, rest, rfl, ho, hrest⟩ := opsR_cons hidx
  rw [wanted_rel f2] at hw
  have hrr := execA_rel (P := P) hh hN f2 o
  have hdef : fr.roundOf = none ∨ ∀ c, o.op ≠ .defer c := by
    cases hro : s.fr.roundOf with
    | none => rw [hro] at f7; exact .inl f7
    | some x =>
      right; intro c hc
      rw [hc] at h
      unfold execA at h
      obtain ⟨callee, args, ats⟩ := c
      cases callee with
      | value f =>
        simp only at h
        split at h
        · split at h
          · simp only [applyA, hro] at h; cases h
          · cases h
        · cases h
      | builtin b => cases h
      | invoke r m => cases h
  obtain ⟨cfn, ctmps, ctodo, cds, cmode, ckind, cro⟩ := fr
  simp only at hct f5 hdef hw hrr; subst hct; subst f5
  generalize hres : execA P s.fr.tm s.h o.op = r at h hrr
  cases r with
  | val v h' =>
    obtain ⟨φ', cv, w', e, hv, hle, hh', hb'⟩ := hrr
    simp only [applyA] at h
    split at h
    · rename_i fr' hfin
      cases h
      exact ⟨φ', _, cs, w', hle, m_value ho hw hdef e, ⟨finish_rel (hF.le hle) hv hfin, hcs.le hle, hh', hb.trans hb', Nat.le_trans hN hb'.size⟩⟩
    · cases h
  | skip h' =>
    obtain ⟨φ', w', e, hle, hh', hb'⟩ := hrr
    simp only [applyA] at h
    split at h
    · rename_i fr' hfin
      cases h
      exact ⟨φ', _, cs, w', hle, m_skipped ho hw hdef e, ⟨finish_rel (hF.le hle) VR_und hfin, hcs.le hle, hh', hb.trans hb', Nat.le_trans hN hb'.size⟩⟩
    · cases h
  | enter f args h' =>
    obtain ⟨cargs, e, ha, hh'⟩ := hrr
    simp only [applyA] at h
    split at h
    · rename_i v h2 hk2
      split at h
      · rename_i fr' hfin
        cases h
        obtain ⟨cv, w', ⟨φ', cv', q1, q2, q3, q4, q5⟩, hst⟩ := calls_steps (hK.call _ _ _ _ _ hk2 N φ w cargs hh' hN ha) (fun e w' ⟨_, cv, he, _⟩ => ⟨cv, he⟩) ⟨cfn, ctmps, .inRegion ops (i :: rest) :: ck, cds, .run, ckind, cro⟩ (cs ++ bot)
        cases q1
        exact ⟨φ', _, cs, w', q2, Steps.trans (m_enter ho hw hdef e) hst, ⟨finish_rel (hF.le q2) q3 hfin, hcs.le q2, q4, hb.trans q5, Nat.le_trans hN q5.size⟩⟩
      · cases h
    split at h
    · rename_i fr' hen
      cases h
      exact ⟨φ, _, _ :: cs, w, φ.le_refl, m_enter ho hw hdef e, ⟨.mk (enter_dr hen) (enter_rel ha hen), ⟨_, _, rfl, hF, hcs⟩, hh', hb, hN⟩⟩
    · cases h
  | ext f args h' =>
    obtain ⟨cargs, e, ha, hh'⟩ := hrr
    simp only [applyA] at h
    split at h
    · rename_i v h2 hk2
      split at h
      · rename_i fr' hfin
        cases h
        obtain ⟨φ', cv, w', q1, q2, q3, q4, q5⟩ := hK.ext _ _ _ _ _ hk2 N φ w cargs hh' hN ha
        rw [q1] at e
        exact ⟨φ', _, cs, w', q2, m_value ho hw hdef e, ⟨finish_rel (hF.le q2) q3 hfin, hcs.le q2, q4, hb.trans q5, Nat.le_trans hN q5.size⟩⟩
      · cases h
    · cases h
  | round lp args h' =>
    obtain ⟨L, cargs, hL, e, ha, hh'⟩ := hrr
    simp only [applyA] at h
    split at h
    · rename_i rl hlp
      split at h
      · rename_i tm' hsp
        cases h
        obtain ⟨tmps', hy, htr⟩ := yield_run (P := P) hh' hlp hL ha hsp
        rw [hy] at e
        refine ⟨φ, _, _ :: cs, w, φ.le_refl, m_round ho hw hdef e, ⟨.mk rfl ⟨rfl, htr, ⟨rfl, rfl, rfl, trivial⟩, trivial, rfl, rfl, ⟨L, hL, rfl⟩⟩, ⟨_, _, rfl, hF, hcs⟩, hh', hb, hN⟩⟩
      · cases h
    · cases h
  | defer d h' =>
    obtain ⟨cd, e, hd, hh'⟩ := hrr
    simp only [applyA] at h
    split at h
    · cases h
    · rename_i hro
      rw [hro] at f7; simp only [RoR] at f7; subst f7
      split at h
      · rename_i fr' hfin
        cases h
        have hf2 : FR φ { s.fr with defers := d :: s.fr.defers } ⟨cfn, ctmps, .inRegion ops (i :: rest) :: ck, cd :: cds, .run, ckind, none⟩ :=
          ⟨f1, f2, hf'.todo, ⟨hd, f4⟩, hf'.mode, f6, by rw [hro]; rfl⟩
        exact ⟨φ, _, cs, w, φ.le_refl, m_defer ho hw e, ⟨finish_rel (k := s.cs.length) (c := { s.fr with defers := d :: s.fr.defers }) (.mk hdr hf2) VR_und hfin, hcs, hh', hb, hN⟩⟩
      · cases h
  | recover h' =>
    obtain ⟨e, hh'⟩ := hrr
    simp only [applyA] at h
    split at h
    · cases h
    · rename_i hro
      rw [hro] at f7; simp only [RoR] at f7; subst f7
      split at h
      · rename_i v acs' hrec
        split at h
        · rename_i fr' hfin
          cases h
          have hst := m_recover (P := P) (cs := cs ++ bot) (k := ck) (ds := cds) (kd := ckind) (fn := cfn) (rest := rest) ho hw e
          rcases recover_rel (bot := bot) (fr := ⟨cfn, ctmps, .inRegion ops (i :: rest) :: ck, cds, .run, ckind, none⟩) f6 hcs hrec with ⟨cv, cs', q1, q2, q3⟩ | ⟨q1, q2, q3⟩
          · rw [q1] at hst
            exact ⟨φ, _, cs', w, φ.le_refl, hst, ⟨.mk ((finish_dr' hdr hfin)) (finish1_rel hf' q2 (finish_1 hdr hfin)), q3, hh', hb, hN⟩⟩
          · rw [q1] at hst
            subst q2; subst q3
            exact ⟨φ, _, cs, w, φ.le_refl, hst, ⟨.mk ((finish_dr' hdr hfin)) (finish1_rel hf' (VR_nilIface.2 rfl) (finish_1 hdr hfin)), hcs, hh', hb, hN⟩⟩
        · cases h
      · cases h
  | panic v h' =>
    obtain ⟨cv, e, hv, hh'⟩ := hrr
    simp only [applyA] at h
    split at h
    · rename_i fr' hra
      cases h
      exact ⟨φ, _, cs, w, φ.le_refl, m_panic ho hw hdef e, ⟨raise_rel hF (l := [{ v, recovered := false }]) (l' := [{ v := cv, recovered := false }]) ⟨⟨rfl, rfl, hv⟩, trivial⟩ hra, hcs, hh', hb, hN⟩⟩
    · cases h
  | fail => cases h

/-- A range over a function begins. -/
theorem sim_rangeFunc {f : Operand} {ps : Array Tmp} {a b : Code} {k : List AItem} (hs : SR N w0 φ s fr cs w) (hdr : s.fr.dr = none) (hm : s.fr.mode = .run) (ht : s.fr.todo = .code (.rangeFunc f ps a b) :: k)
    (h : enterLoopA P s f ps a b k = some s') : Goes P N w0 bot φ fr cs w s' := by
  obtain ⟨hF, hcs, hh, hb, hN⟩ := hs
  have hf := hF.un hdr
  have hf' := hf
  obtain ⟨f1, f2, f3, f4, f5, f6, f7⟩ := hf
  rw [hm] at f5; simp only [MR] at f5
  rw [ht] at f3
  obtain ⟨ci, ck, hct, hci, hk⟩ := All2.cons_left.1 f3
  simp only [IR] at hci; subst hci
  obtain ⟨cfn, ctmps, ctodo, cds, cmode, ckind, cro⟩ := fr
  simp only at hct f5 f1 f2; subst hct; subst f5
  -- the call of the function, once the loop's record lies there
  have call : ∀ {φ' : Phi} {h1 : H} {w1 : World} {l : Nat} {L : Loc} {f' : AV} {g : FuncId} {args : List AV} {h2 : H}, φ.le φ' → HR N φ' h1 w1 → φ' l = some L → evalA s.fr.tm f = some f' →
      callV P f' [.yield l] h1 = .enter g args h2 →
      h2 = h1 ∧ ∃ cargs, ((do let d ← resolve (ev ctmps) { callee := .value f, args := #[.const (.func (.yield L.B) #[] #[])], argTypes := #[] } 0; invoke d.target d.args) : Sem Next).run P w1 = .ok (.enter g cargs) w1 ∧ All2 (VR φ') args cargs.toList := by
    intro φ' h1 w1 l L f' g args h2 hle hr1 hL hev hcall
    have hv := (evalA_rel f2 hev).le hle
    have hrr := callV_rel (P := P) hr1 hv (args := [.yield l]) (cargs := #[.func (.yield L.B) #[] #[]]) ⟨VR_yield.2 ⟨L, hL, rfl⟩, trivial⟩
    rw [hcall] at hrr
    obtain ⟨cargs, e1, e2, e3⟩ := hrr
    refine ⟨?_, cargs, ?_, e2⟩
    · unfold callV at hcall
      split at hcall
      · split at hcall
        · cases hcall; rfl
        · cases hcall
      · cases hcall
      · cases hcall
    · simpa [resolve, ev] using e1
  unfold enterLoopA at h
  split at h
  · rename_i f' hev
    simp only at h
    split at h
    · -- within a round
      rename_i lo hro
      have h7 := f7
      rw [hro] at h7
      obtain ⟨Lo, hLo, hro'⟩ := h7
      simp only at hro'; subst hro'
      split at h
      · rename_i r hlo
        split at h
        · rename_i g args h2 hcall
          split at h
          · rename_i fr' hen
            cases h
            obtain ⟨tmps0, D, g0, g1, g2, ⟨M, hM, hDM⟩, g4⟩ := loop_get (P := P) hh hlo hLo
            obtain ⟨O, hO⟩ : ∃ O : Obj, O = .loop { state := .ready, pending := none, fn := cfn, tmps := ctmps, params := ps, assign := a, body := b, defers := D } := ⟨_, rfl⟩
            have hp := obj_push hh (o := .loop { state := .ready, pending := none, fn := s.fr.fn, nt := s.fr.nt, tm := s.fr.tm, params := ps.toList, assign := a, body := b, defers := r.defers }) (O := O)
              (fun ψ hle => ⟨hN, ctmps, D, by rw [hO, ← f1]; simp, f2.le hle, M, hle _ _ hM, hDM⟩)
            obtain ⟨e1, cargs, e2, e3⟩ := call hp.2 hp.1 (Phi.ins_same _ _ _) hev hcall
            subst e1
            have hrun : (Instr.enterLoop cfn ctmps ps a b (some Lo.B)).run P w = .ok (w.heap.size, []) { w with heap := w.heap.push O } := by
              simp only [Instr.enterLoop, Sem.run_bind, g4, Result.andThen_ok, Sem.run_pure, run_newObj, hO]
            refine ⟨_, _, _ :: cs, _, hp.2, m_rangeFunc hrun e2, ⟨.mk (enter_dr hen) (enter_rel e3 hen), ⟨_, _, rfl, .mk hdr ⟨f1, f2.le hp.2, ⟨⟨_, Phi.ins_same _ _ _, rfl⟩, hk.mono fun _ _ => IR.le hp.2⟩, ?_, by rw [hm]; rfl, f6, RoR.le hp.2 f7⟩, hcs.le hp.2⟩, hp.1, hb.trans (below_push _ hN), by simp; omega⟩⟩
            exact f4.mono fun _ _ => DR.le hp.2
          · cases h
        · cases h
      · cases h
    · -- outside of rounds
      rename_i hro
      have h7 := f7
      rw [hro] at h7
      simp only [RoR] at h7; subst h7
      split at h
      · rename_i g args h2 hcall
        split at h
        · rename_i fr' hen
          cases h
          have hp0 := obj_push hh (o := .deferred (some [])) (O := .deferred (some [])) (fun ψ hle => ⟨hN, some [], by simp, [], rfl, trivial⟩)
          obtain ⟨w1, hw1⟩ : ∃ w1 : World, w1 = { w with heap := w.heap.push (.deferred (some [])) } := ⟨_, rfl⟩
          rw [← hw1] at hp0
          have hsz1 : w1.heap.size = w.heap.size + 1 := by rw [hw1]; simp
          have hN1 : N ≤ w1.heap.size := by omega
          obtain ⟨O, hO⟩ : ∃ O : Obj, O = .loop { state := .ready, pending := none, fn := cfn, tmps := ctmps, params := ps, assign := a, body := b, defers := w.heap.size } := ⟨_, rfl⟩
          have hp := obj_push hp0.1 (o := .loop { state := .ready, pending := none, fn := s.fr.fn, nt := s.fr.nt, tm := s.fr.tm, params := ps.toList, assign := a, body := b, defers := s.h.nx }) (O := O)
            (fun ψ hle => ⟨hN1, ctmps, w.heap.size, by rw [hO, ← f1]; simp, (f2.le hp0.2).le hle, _, hle _ _ (Phi.ins_same _ _ _), rfl⟩)
          have hle := Phi.le_trans hp0.2 hp.2
          obtain ⟨e1, cargs, e2, e3⟩ := call hle hp.1 (Phi.ins_same _ _ _) hev hcall
          subst e1
          have hrun : (Instr.enterLoop cfn ctmps ps a b none).run P w = .ok (w1.heap.size, [{ target := .collected w.heap.size, args := #[] }]) { w1 with heap := w1.heap.push O } := by
            simp only [Instr.enterLoop, Sem.run_bind, run_newObj, Result.andThen_ok, Sem.run_pure, hO, hw1]
          refine ⟨_, _, _ :: cs, _, hle, m_rangeFunc hrun e2, ⟨.mk (enter_dr hen) (enter_rel e3 hen), ⟨_, _, rfl, .mk hdr ⟨f1, f2.le hle, ⟨⟨_, Phi.ins_same _ _ _, rfl⟩, hk.mono fun _ _ => IR.le hle⟩, ⟨⟨_, hp.2 _ _ (Phi.ins_same _ _ _), rfl⟩, f4.mono fun _ _ => DR.le hle⟩, by rw [hm]; rfl, f6, RoR.le hle f7⟩, hcs.le hle⟩, hp.1,
            (hb.trans (by rw [hw1]; exact below_push _ hN)).trans (below_push _ hN1), by simp; omega⟩⟩
        · cases h
      · cases h
  · cases h

theorem asAddr_run {a : Addr} : (asAddr (.pointer (some a))).run P w = .ok a w := rfl

theorem evalRes_rel {h : H} (hr : HR N φ h w) {nt : Nat} {tm : T AV} {tmps : Array Value} (tr : TR φ nt tm tmps) : ∀ {g : ResultVar → Sem Value} (_ : ∀ t, g (.tmp t) = pure (tmps.getD t undef)) (_ : ∀ a t, g (.cell a t) = do loadVar t (← asAddr (tmps.getD a undef))) {l : List ResultVar} {vs : List AV}, evalRes P tm h l = some vs →
    ∃ cvs : List Value, (l.mapM g).run P w = .ok cvs w ∧ All2 (VR φ) vs cvs
  | _, _, _, [], vs, h => by simp only [evalRes, Option.some.injEq] at h; subst h; exact ⟨[], rfl, trivial⟩
  | g, ga, gb, .tmp t :: l, vs, h => by
    simp only [evalRes] at h
    split at h
    · rename_i vs' hvs
      cases h
      obtain ⟨cvs, h1, h2⟩ := evalRes_rel hr tr ga gb hvs
      refine ⟨tmps.getD t undef :: cvs, ?_, tr.2 t, h2⟩
      simp only [List.mapM_cons, ga, Sem.run_bind, Sem.run_pure, Result.andThen_ok, h1]
    · cases h
  | g, ga, gb, .cell a t :: l, vs, h => by
    simp only [evalRes] at h
    split at h
    · rename_i b o hok hta
      have hpa := tr.2 a
      rw [hta, Option.getD_some, VR_ptr] at hpa
      obtain ⟨L, hL, hpa⟩ := hpa
      split at h
      · rename_i v vs' hv hvs
        cases h
        obtain ⟨cvs, h1, h2⟩ := evalRes_rel hr tr ga gb hvs
        obtain ⟨L', hL', cv, h3, h4⟩ := loadV_rel (P := P) hr hL hok hv
        rw [hL] at hL'; cases hL'
        refine ⟨cv :: cvs, ?_, h4, h2⟩
        simp only [List.mapM_cons, gb, Sem.run_bind, hpa, asAddr_run, Sem.run_pure, Result.andThen_ok, h3, h1]
      · cases h
    · cases h

def resFn (tmps : Array Value) (x : ResultVar) : Sem Value :=
  match x with
  | .tmp t => pure (tmps.getD t undef)
  | .cell a t => do loadVar t (← asAddr (tmps.getD a undef))

theorem results_eq (fn : Func) (tmps : Array Value) : results fn tmps = (do let vs ← fn.results.mapM (resFn tmps); pure (if h : vs.size = 1 then vs[0] else .tuple vs)) := by
  unfold results
  rfl

theorem resA_rel {h : H} (hr : HR N φ h w) {nt : Nat} {tm : T AV} {tmps : Array Value} (tr : TR φ nt tm tmps) {fn : Func} {v : AV} (hv : resA P fn tm h = some v) :
    ∃ cv, (results fn tmps).run P w = .ok cv w ∧ VR φ v cv := by
  have key : ∀ vs, evalRes P tm h fn.results.toList = some vs → ∃ cvs : List Value, (results fn tmps).run P w = .ok (if hh : cvs.toArray.size = 1 then cvs.toArray[0] else .tuple cvs.toArray) w ∧ All2 (VR φ) vs cvs := by
    intro vs hvs
    rw [results_eq]
    simp only [Sem.run_bind, Array.mapM_eq_mapM_toList, Sem.run_map]
    obtain ⟨cvs, h1, h2⟩ := evalRes_rel (P := P) hr tr (g := resFn tmps) (fun _ => rfl) (fun _ _ => rfl) hvs
    refine ⟨cvs, ?_, h2⟩
    rw [h1]
    rfl
  unfold resA at hv
  split at hv
  · rename_i v' hvs
    cases hv
    obtain ⟨cvs, h1, h2⟩ := key _ hvs
    obtain ⟨c, cr, rfl, h3, h4⟩ := All2.cons_left.1 h2
    rw [All2.nil_left] at h4; subst h4
    exact ⟨c, by rw [h1]; rfl, h3⟩
  · rename_i vs hne hvs
    cases hv
    obtain ⟨cvs, h1, h2⟩ := key _ hvs
    refine ⟨.tuple cvs.toArray, ?_, VR_tuple.2 ⟨_, rfl, h2⟩⟩
    rw [h1]
    have : ¬ cvs.toArray.size = 1 := by
      intro e
      have hl : vs.length = 1 := by rw [h2.length]; simpa using e
      match vs, hl with
      | [v], _ => exact hne v rfl
    rw [dif_neg this]
  · cases hv


theorem settle_not {c : AMode} {m : FrameMode} (h : MR φ c m) (hn : ∀ v older, c ≠ .panicking ({ v, recovered := true } :: older)) : settle m = m := by
  cases c with
  | run => simp only [MR] at h; subst h; rfl
  | returning => simp only [MR] at h; subst h; rfl
  | panicking l =>
    obtain ⟨l', rfl, hl⟩ := h
    cases l with
    | nil => rw [All2.nil_left] at hl; subst hl; rfl
    | cons p older =>
      obtain ⟨pe, lr, rfl, ⟨p1, p2, p3⟩, hl2⟩ := All2.cons_left.1 hl
      obtain ⟨pv, pr, pg⟩ := pe
      obtain ⟨av, ar⟩ := p
      simp only at p1 p2; subst p1; subst p2
      cases pr with
      | true => exact absurd rfl (hn _ _)
      | false => rfl

theorem settle_yes {l : List APanic} {v : AV} {m : FrameMode} (h : MR φ (.panicking ({ v, recovered := true } :: l)) m) : settle m = .returning := by
  obtain ⟨l', rfl, hl⟩ := h
  obtain ⟨pe, lr, rfl, ⟨p1, p2, p3⟩, hl2⟩ := All2.cons_left.1 hl
  obtain ⟨pv, pr, pg⟩ := pe
  simp only at p1 p2; subst p1; subst p2
  unfold settle
  have : lr.dropWhile (!·.goexit) = [] := by
    have : ∀ (l : List APanic) (lr : List PanicEntry), All2 (PR φ) l lr → lr.dropWhile (!·.goexit) = [] := by
      intro l
      induction l with
      | nil => intro lr h; rw [All2.nil_left] at h; subst h; rfl
      | cons p l ih =>
        intro lr h
        obtain ⟨pe, lr', rfl, ⟨_, p2, _⟩, h2⟩ := All2.cons_left.1 h
        rw [List.dropWhile_cons_of_pos (by simp [p2])]
        exact ih lr' h2
    exact this l lr hl2
  simp only [this]

/-- A frame on its way out. -/
theorem sim_unwind (hs : SR N w0 φ s fr cs w) (hdr : s.fr.dr = none) (hm : s.fr.mode ≠ .run) (h : unwindA P s = some s') : Goes P N w0 bot φ fr cs w s' := by
  obtain ⟨hF, hcs, hh, hb, hN⟩ := hs
  have hf := hF.un hdr
  have hf' := hf
  obtain ⟨f1, f2, f3, f4, f5, f6, f7⟩ := hf
  have hmode : fr.mode ≠ .run := by
    cases hmm : s.fr.mode with
    | run => exact absurd hmm hm
    | returning => rw [hmm] at f5; simp only [MR] at f5; rw [f5]; simp
    | panicking l => rw [hmm] at f5; obtain ⟨l', e, _⟩ := f5; rw [e]; simp
  obtain ⟨cfn, ctmps, ctodo, cds, cmode, ckind, cro⟩ := fr
  simp only at f1 f2 f3 f4 f5 f6 f7 hmode
  unfold unwindA at h
  split at h
  · rename_i r ds hds
    rw [hds] at f4
    obtain ⟨cd, cr, rfl, ⟨L, hL, rfl⟩, hr⟩ := All2.cons_left.1 f4
    split at h
    · rename_i calls hb'
      cases h
      obtain ⟨hNL, c, g1, l', rfl, g2⟩ := hh.get hb' hL
      have hlt := (hh.get hb' hL).lt
      have hrun : (Instr.takeDeferred L.B).run P w = .ok l' (setB w L.B (.deferred none)) := by
        simp only [Instr.takeDeferred, Sem.run_bind, getObj_run g1 (fun _ _ _ => by simp), Result.andThen_ok, setObj_run g1 (fun _ _ _ => by simp), Sem.run_pure]
      refine ⟨φ, _, cs, _, φ.le_refl, m_collected hmode hrun, ⟨.mk hdr ⟨f1, f2, f3, g2.append hr, f5, f6, f7⟩, hcs, ?_, hb.trans (below_setB _ hNL), by rw [setB_size]; exact hN⟩⟩
      exact hh.set hb' hL _ (fun k hk => by rw [setB_get hlt, if_neg hk]) ⟨hNL, none, by rw [setB_get hlt, if_pos rfl], rfl⟩
    · cases h
  · rename_i f args cap ds hds
    rw [hds] at f4
    obtain ⟨cd, cr, rfl, ⟨a, b, rfl, h1, h2⟩, hr⟩ := All2.cons_left.1 f4
    split at h
    · rename_i hok
      split at h
      · rename_i fr' hen
        cases h
        have hrun : (invoke (.fn (.func f) b) a).run P w = .ok (.enter f (a ++ b)) w := by
          simp only [invoke, callFunc_run hok]
        exact ⟨φ, _, _ :: cs, w, φ.le_refl, m_deferred hmode hrun, ⟨.mk (enter_dr hen) (enter_rel (by rw [Array.toList_append]; exact h1.append h2) hen), ⟨_, _, rfl, .mk hdr ⟨f1, f2, f3, hr, f5, f6, f7⟩, hcs⟩, hh, hb, hN⟩⟩
      · cases h
    · cases h
  · rename_i hds
    rw [hds, All2.nil_left] at f4; subst f4
    split at h
    · rename_i hmm; exact absurd hmm hm
    · rename_i chain hmm
      split at h
      · rename_i c acs fn hc hfn
        rw [hc] at hcs
        obtain ⟨cc, ccs, rfl, hc1, hc2⟩ := hcs
        rw [hmm] at f5
        obtain ⟨l', rfl, hl⟩ := f5
        rw [← f1] at hfn
        split at h
        · rename_i c' hra
          cases h
          exact ⟨φ, _, ccs, w, φ.le_refl, m_raise hfn, ⟨raise_rel hc1 hl hra, hc2, hh, hb, hN⟩⟩
        · cases h
      · cases h
    · rename_i hmm
      rw [hmm] at f5; simp only [MR] at f5; subst f5
      split at h
      · rename_i fn hfn
        rw [← f1] at hfn
        split at h
        · rename_i v hv
          obtain ⟨cv, hr, hvr⟩ := resA_rel (P := P) hh f2 hv
          unfold doRet at h
          split at h
          · cases h
          · rename_i c acs hc
            rw [hc] at hcs
            obtain ⟨cc, ccs, rfl, hc1, hc2⟩ := hcs
            split at h
            · rename_i hk
              rw [hk] at f6; subst f6
              split at h
              · rename_i c' hfin
                cases h
                exact ⟨φ, _, ccs, w, φ.le_refl, m_return hfn hr, ⟨finish_rel hc1 hvr hfin, hc2, hh, hb, hN⟩⟩
              · cases h
            · rename_i hk
              rw [hk] at f6; subst f6
              split at h
              · rename_i v' older hcm
                cases h
                have hst := m_returnD (cs := ccs ++ bot) (ro := cro) (todo := ctodo) (c := cc) hfn hr
                have h5 := hc1.mode
                rw [hcm] at h5
                rw [settle_yes h5] at hst
                exact ⟨φ, _, ccs, w, φ.le_refl, hst, ⟨hc1.withMode rfl, hc2, hh, hb, hN⟩⟩
              · rename_i hcm
                cases h
                have hst := m_returnD (cs := ccs ++ bot) (ro := cro) (todo := ctodo) (c := cc) hfn hr
                rw [settle_not hc1.mode (fun v older e => hcm v older e)] at hst
                exact ⟨φ, _, ccs, w, φ.le_refl, hst, ⟨hc1, hc2, hh, hb, hN⟩⟩
            · cases h
        · cases h
      · cases h

end
end Go.AX

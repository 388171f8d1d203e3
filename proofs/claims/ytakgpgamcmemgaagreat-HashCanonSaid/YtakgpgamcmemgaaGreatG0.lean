/-
  AX: walks: what is so of a frame at work, whatever is below it.
-/
import Derived.Test.YtakgpgamcmemgaaGreatAxF
set_option linter.unusedSimpArgs false
set_option linter.unusedVariables false
set_option linter.unusedSectionVars false
namespace Go.AX
noncomputable section
open Go.RowKit
def ifB (b : Bool) (p q : Prop) : Prop := (b = true → p) ∧ (b = false → q)
@[simp] theorem ifB_true {p q : Prop} : ifB true p q = p := by simp [ifB]
@[simp] theorem ifB_false {p q : Prop} : ifB false p q = q := by simp [ifB]
section
variable (P : Program)
def pushS (c : AFrame) (cs : List AFrame) : R → Option S
  | .enter f args h => match enterA P f args .normal with
    | some fr => some ⟨fr, c :: cs, h⟩
    | none => none
  | .round l args h => match h.t.get l with
    | some (.loop r) => match setParams r.nt r.tm r.params args with
      | some tm => some ⟨{ fn := r.fn, nt := r.nt, tm, todo := [.code r.assign, .beginRound, .code r.body], defers := [], mode := .run, kind := .normal, roundOf := some l }, c :: cs, h⟩
      | none => none
    | _ => none
  | _ => none
def Leads (s : S) (T : S → Prop) : Prop :=
  ∀ (N : NN) (w0 : World) (bot : List Frame) (φ : Phi) (fr : Frame) (cs : List Frame) (w : World), SR N w0 φ s fr cs w → ∃ s', T s' ∧ GoesN P N w0 bot φ fr cs w s'
theorem Leads.of_reach {s s' : S} {T : S → Prop} (h : Reach P s s') (ht : T s') : Leads P s T := fun N w0 bot φ fr cs w hs => ⟨s', ht, h N w0 bot φ fr cs w hs⟩
theorem Leads.bind {s : S} {T U : S → Prop} (h : Leads P s T) (k : ∀ s', T s' → Leads P s' U) : Leads P s U := fun N w0 bot φ fr cs w hs => by
  obtain ⟨s1, t1, N1, φ1, fr1, cs1, w1, e1, l1, st1, sr1⟩ := h N w0 bot φ fr cs w hs
  obtain ⟨s2, t2, N2, φ2, fr2, cs2, w2, e2, l2, st2, sr2⟩ := k s1 t1 N1 w0 bot φ1 fr1 cs1 w1 sr1
  exact ⟨s2, t2, N2, φ2, fr2, cs2, w2, e2.trans e1, Phi.le_trans l1 l2, Steps.trans st1 st2, sr2⟩
theorem Leads.mono {s : S} {T U : S → Prop} (h : Leads P s T) (k : ∀ s', T s' → U s') : Leads P s U := fun N w0 bot φ fr cs w hs => let ⟨s1, t1, g⟩ := h N w0 bot φ fr cs w hs; ⟨s1, k s1 t1, g⟩
def BackAt (c : AFrame) (cs : List AFrame) (Q : AV → H → Prop) (s' : S) : Prop := ∃ v h' c', Q v h' ∧ c.finish v = some c' ∧ s' = ⟨c', cs, h'⟩
def PushC (r : R) (Q : AV → H → Prop) : Prop :=
  ∀ (c : AFrame) (cs : List AFrame), (∀ v, ∃ c', c.finish v = some c') → ∃ s0, pushS P c cs r = some s0 ∧ Leads P s0 (BackAt c cs Q)
def CallC (r : R) (Q : AV → H → Prop) : Prop :=
  PushC P r Q ∨ (∃ f args h K v h', r = .enter f args h ∧ HookOk P K ∧ K.call f args h = some (v, h') ∧ Q v h')
theorem PushC.mono {r : R} {Q Q' : AV → H → Prop} (hc : PushC P r Q) (hq : ∀ v h, Q v h → Q' v h) : PushC P r Q' :=
  fun c cs hf => let ⟨s0, a, d⟩ := hc c cs hf; ⟨s0, a, d.mono P fun s' ⟨v, h', c', q, e1, e2⟩ => ⟨v, h', c', hq _ _ q, e1, e2⟩⟩
theorem PushC.call {r : R} {Q : AV → H → Prop} (hc : PushC P r Q) : CallC P r Q := .inl hc
def ExtC (f : FuncId) (args : List AV) (h : H) (Q : AV → H → Prop) : Prop :=
  ∃ K v h', HookOk P K ∧ K.ext f args h = some (v, h') ∧ Q v h'
theorem CallC.mono {r : R} {Q Q' : AV → H → Prop} (hc : CallC P r Q) (hq : ∀ v h, Q v h → Q' v h) : CallC P r Q' := by
  rcases hc with hc | ⟨f, args, h, K, v, h', e1, e2, e3, e4⟩
  · exact .inl (hc.mono P hq)
  · exact .inr ⟨f, args, h, K, v, h', e1, e2, e3, hq _ _ e4⟩
theorem CallC.of_hook {K : Hook} (hK : HookOk P K) {f : FuncId} {args : List AV} {h h' : H} {v : AV} {Q : AV → H → Prop} (hk : K.call f args h = some (v, h')) (hq : Q v h') : CallC P (.enter f args h) Q :=
  .inr ⟨f, args, h, K, v, h', rfl, hK, hk, hq⟩
def exW (r : R) (K : AV → H → Prop) : Prop :=
  match r with
  | .val v h => K v h
  | .skip h => K und h
  | .enter f args h => CallC P (.enter f args h) K
  | .round l args h => CallC P (.round l args h) K
  | .ext f args h => ExtC P f args h K
  | _ => False
@[simp] theorem exW_val (v : AV) (h : H) (K : AV → H → Prop) : exW P (.val v h) K = K v h := id rfl
@[simp] theorem exW_skip (h : H) (K : AV → H → Prop) : exW P (.skip h) K = K und h := id rfl
@[simp] theorem exW_enter (f : FuncId) (args : List AV) (h : H) (K : AV → H → Prop) : exW P (.enter f args h) K = CallC P (.enter f args h) K := id rfl
@[simp] theorem exW_round (l : Nat) (args : List AV) (h : H) (K : AV → H → Prop) : exW P (.round l args h) K = CallC P (.round l args h) K := id rfl
@[simp] theorem exW_ext (f : FuncId) (args : List AV) (h : H) (K : AV → H → Prop) : exW P (.ext f args h) K = ExtC P f args h K := id rfl
def wantW (tm : T AV) (ops : Array Oper) (g : Option (Nat × Bool)) (p q : Prop) : Prop :=
  match g with
  | none => p
  | some (j, want) => match dstOf ops j with
    | some d => match tm.get d with
      | some (.bool b) => ifB (b == want) p q
      | some (.tuple []) => q
      | _ => False
    | none => False
@[simp] theorem wantW_none (tm : T AV) (ops : Array Oper) (p q : Prop) : wantW tm ops none p q = p := rfl
def opsW (nt : Nat) (ops : Array Oper) : List Oper → T AV → H → (T AV → H → Prop) → Prop
  | [], tm, h, Q => Q tm h
  | o :: l, tm, h, Q => wantW tm ops o.guard (exW P (execA P tm h o.op) fun v h => opsW nt ops l (putT nt tm o.dst v) h Q) (opsW nt ops l (putT nt tm o.dst und) h Q)
def opK (nt : Nat) (ops : Array Oper) (d : Option Tmp) (l : List Oper) (tm : T AV) (Q : T AV → H → Prop) (v : AV) (h : H) : Prop := opsW P nt ops l (putT nt tm d v) h Q
theorem opsW_nil (nt : Nat) (ops : Array Oper) (tm : T AV) (h : H) (Q : T AV → H → Prop) : opsW P nt ops [] tm h Q = Q tm h := id rfl
theorem opsW_cons (nt : Nat) (ops : Array Oper) (o : Oper) (l : List Oper) (tm : T AV) (h : H) (Q : T AV → H → Prop) :
    opsW P nt ops (o :: l) tm h Q = wantW tm ops o.guard (exW P (execA P tm h o.op) (opK P nt ops o.dst l tm Q)) (opK P nt ops o.dst l tm Q und h) := rfl
def drawW (nt : Nat) (ops : Array Oper) : List (Nat × Oper) → List (Nat × Oper × Nat) → T AV → H → (T AV → H → Prop) → Prop
  | [], early, tm, h, Q => earlyOk P nt tm h ops early = true ∧ Q tm h
  | (i, o) :: rem, early, tm, h, Q =>
    match isAlloc o with
    | true => match fresh1 P (mini tm (slotsOf ops o)) o.op with
      | some (t, l) => drawW nt ops rem ((i, o, h.nx) :: early) (putT nt tm o.dst (.ptr h.nx 0)) (h.newCells t l) Q
      | none => False
    | false => match readVal P tm h ops o with
      | some v => drawW nt ops rem ((i, o, 0) :: early) (putT nt tm o.dst v) h Q
      | none => match isFl o && !chainB i [i] rem with
        | true => isRead o.op = false ∧ wantedD (mini tm (slotsOf ops o)) ops o = true ∧ match fresh2 P (mini tm (slotsOf ops o)) o.op with
          | some (t, l, n) => drawW nt ops rem ((i, o, h.nx) :: early) (putT nt tm o.dst (.slice h.nx 0 n (.exact n))) (h.newCells t l) Q
          | none => False
        | false => isRead o.op = false ∧ chainB i [i] rem = true ∧ earlyOk P nt tm h ops early = true ∧ dstOk nt o.dst = true ∧
          exW P (execD P tm h ops o) fun v h => drawW nt ops rem (dropF (edgesOf o.after.toList) early) (putT nt tm o.dst v) h Q
def drawK (nt : Nat) (ops : Array Oper) (d : Option Tmp) (rem : List (Nat × Oper)) (early : List (Nat × Oper × Nat)) (tm : T AV) (Q : T AV → H → Prop) (v : AV) (h : H) : Prop := drawW P nt ops rem early (putT nt tm d v) h Q
inductive Out where
  | norm
  | exit (id : Nat)
  | ret
abbrev KQ := Out → List Nat → T AV → H → Prop
def seqK (f : List Nat → T AV → H → Prop) (Q : KQ) : KQ := fun o ds tm h =>
  match o with
  | .norm => f ds tm h
  | .exit id => Q (.exit id) ds tm h
  | .ret => Q .ret ds tm h
def blkK (id : Nat) (Q : KQ) : KQ := fun o ds tm h =>
  match o with
  | .norm => Q .norm ds tm h
  | .exit i => match Nat.beq i id with
    | true => Q .norm ds tm h
    | false => Q (.exit i) ds tm h
  | .ret => Q .ret ds tm h
def loopK (Inv : Nat → List Nat → T AV → H → Prop) (n : Nat) (Q : KQ) : KQ := fun o ds tm h =>
  match o with
  | .norm => ∃ m, m < n ∧ Inv m ds tm h
  | .exit i => Q (.exit i) ds tm h
  | .ret => Q .ret ds tm h
def condW (v : Option AV) (p q : Prop) : Prop :=
  match v with
  | some (.bool b) => ifB b p q
  | _ => False
@[simp] theorem condW_bool (b : Bool) (p q : Prop) : condW (some (.bool b)) p q = ifB b p q := id rfl
def loopObj (fn nt : Nat) (tm : T AV) (params : Array Tmp) (a b : Code) (D : Nat) (st : LoopState) (pend : Option Code) : AObj :=
  .loop { state := st, pending := pend, fn, nt, tm, params := params.toList, assign := a, body := b, defers := D }
def rfEnd (l : Nat) (ds : List Nat) (tm : T AV) (Q : KQ) (h : H) : Prop :=
  match h.t.get l with
  | some (.loop r) => match r.state with
    | .busy => False
    | _ => match r.pending with
      | none => Q .norm ds tm { h with t := h.t.set l (some (.loop { r with state := .exhausted })) }
      | some (.exit i) => Q (.exit i) ds tm { h with t := h.t.set l (some (.loop { r with state := .exhausted })) }
      | some .ret => Q .ret ds tm { h with t := h.t.set l (some (.loop { r with state := .exhausted })) }
      | some _ => False
  | _ => False
def rfCall (r : R) (K : H → Prop) : Prop :=
  match r with
  | .enter f args h => PushC P (.enter f args h) fun _ h => K h
  | _ => False
def rfW (fn : FuncId) (nt : Nat) (ro : Option Nat) (f : Operand) (params : Array Tmp) (a b : Code) (ds : List Nat) (tm : T AV) (h : H) (Q : KQ) : Prop :=
  match evalA tm f with
  | some fv => match ro with
    | none => rfCall P (callV P fv [.yield (h.nx + 1)] ((h.alloc (.deferred (some []))).alloc (loopObj fn nt tm params a b h.nx .ready none))) (rfEnd (h.nx + 1) (h.nx :: ds) tm Q)
    | some l0 => match h.t.get l0 with
      | some (.loop r) => rfCall P (callV P fv [.yield h.nx] (h.alloc (loopObj fn nt tm params a b r.defers .ready none))) (rfEnd h.nx ds tm Q)
      | _ => False
  | none => False
def pickW (nt : Nat) (ops : Array Oper) (l : List Oper) (tm : T AV) (h : H) (Q : T AV → H → Prop) : Prop :=
  match l with
  | [] => False
  | o :: l => o.guard = none ∧ ∃ L, pickA tm h o.op = some L ∧ ∀ y, y ∈ L → opsW P nt ops l (putT nt tm o.dst y.1) y.2 Q
def codeW (fn : FuncId) (nt : Nat) (ro : Option Nat) : Code → List Nat → T AV → H → KQ → Prop
  | .skip, ds, tm, h, Q => Q .norm ds tm h
  | .label _, ds, tm, h, Q => Q .norm ds tm h
  | .seq a b, ds, tm, h, Q => codeW fn nt ro a ds tm h (seqK (fun ds tm h => codeW fn nt ro b ds tm h Q) Q)
  | .region _ ops draw, ds, tm, h, Q => match draw with
    | false => opsW P nt ops ops.toList tm h (Q .norm ds) ∨ pickW P nt ops ops.toList tm h (Q .norm ds)
    | true => match P.follows .mixedOrders, drawA ops with
      | true, some d => drawW P nt d.ops d.rem [] tm h (Q .norm ds)
      | _, _ => False
  | .cond c a b, ds, tm, h, Q => condW (evalA tm c) (codeW fn nt ro a ds tm h Q) (codeW fn nt ro b ds tm h Q)
  | .block id c, ds, tm, h, Q => codeW fn nt ro c ds tm h (blkK id Q)
  | .loop c, ds, tm, h, Q => ∃ (Inv : Nat → List Nat → T AV → H → Prop) (n : Nat), Inv n ds tm h ∧ ∀ n ds tm h, Inv n ds tm h → codeW fn nt ro c ds tm h (loopK Inv n Q)
  | .scope c, ds, tm, h, Q => codeW fn nt ro c ds tm h Q
  | .exit id, ds, tm, h, Q => Q (.exit id) ds tm h
  | .ret, ds, tm, h, Q => Q .ret ds tm h
  | .rangeFunc f params a b, ds, tm, h, Q => rfW P fn nt ro f params a b ds tm h Q
  | .goto _, _, _, _, _ => False
  | .refuse _, _, _, _, _ => False
end
section
variable {P : Program}
def Back (P : Program) (G : S → Prop) : Prop := ∀ s T, Leads P s T → (∀ s', T s' → G s') → G s
theorem back_leads (T : S → Prop) : Back P (fun s => Leads P s T) := fun _ _ hl hk => hl.bind P hk
theorem Back.step {G : S → Prop} (hG : Back P G) {K : Hook} (hK : HookOk P K) {s s' : S} (h : stepA P K s = some s') (hg : G s') : G s := hG _ (fun x => x = s') (Leads.of_reach P (reach_one hK h) rfl) (fun _ e => by subst e; exact hg)
theorem Back.step0 {G : S → Prop} (hG : Back P G) {s s' : S} (h : stepA P noHook s = some s') (hg : G s') : G s := hG.step (noHook_ok P) h hg
abbrev mkF (fn nt : Nat) (kd : CallKind) (ro : Option Nat) (ds : List Nat) (tm : T AV) (todo : List AItem) : AFrame := ⟨fn, nt, tm, todo, ds.map .collected, .run, kd, ro, none⟩
theorem exW_apply {G : S → Prop} (hG : Back P G) {s : S} {r : R} {K : AV → H → Prop} (hx : exW P r K) (hfin : ∀ v, ∃ c', s.fr.finish v = some c') (hk : ∀ v h' c', s.fr.finish v = some c' → K v h' → G ⟨c', s.cs, h'⟩) :
    ∃ K0 s1, HookOk P K0 ∧ applyA P K0 s r = some s1 ∧ G s1 := by
  have hpush : ∀ {r : R}, (∀ s0, pushS P s.fr s.cs r = some s0 → applyA P noHook s r = some s0) → PushC P r K → ∃ K0 s1, HookOk P K0 ∧ applyA P K0 s r = some s1 ∧ G s1 := by
    intro r ha hc
    obtain ⟨s0, e, hl⟩ := hc s.fr s.cs hfin
    exact ⟨noHook, s0, noHook_ok P, ha _ e, hG _ _ hl (fun s' ⟨v, h', c', hq, hc', e'⟩ => by subst e'; exact hk _ _ _ hc' hq)⟩
  cases r with
  | val v h =>
    obtain ⟨c', hc'⟩ := hfin v
    exact ⟨noHook, _, noHook_ok P, by simp only [applyA, hc'], hk _ _ _ hc' hx⟩
  | skip h =>
    obtain ⟨c', hc'⟩ := hfin und
    exact ⟨noHook, _, noHook_ok P, by simp only [applyA, hc'], hk _ _ _ hc' hx⟩
  | enter f args h =>
    rcases hx with hx | ⟨f1, a1, h1, K1, v, h', e, hK, e2, hq⟩
    · refine hpush ?_ hx
      intro s0 h0
      simp only [pushS] at h0
      split at h0
      · rename_i fr hen
        cases h0
        simp only [applyA, noHook, hen]
      · cases h0
    · cases e
      obtain ⟨c', hc'⟩ := hfin v
      exact ⟨K1, _, hK, by simp only [applyA, e2, hc'], hk _ _ _ hc' hq⟩
  | round l args h =>
    rcases hx with hx | ⟨f1, a1, h1, K1, v, h', e, _⟩
    · refine hpush ?_ hx
      intro s0 h0
      simp only [pushS] at h0
      split at h0
      · rename_i r hr
        split at h0
        · rename_i tm htm
          cases h0
          simp only [applyA, hr, htm]
        · cases h0
      · cases h0
    · cases e
  | ext f args h =>
    obtain ⟨K1, v, h', hK, e2, hq⟩ := hx
    obtain ⟨c', hc'⟩ := hfin v
    exact ⟨K1, _, hK, by simp only [applyA, e2, hc'], hk _ _ _ hc' hq⟩
  | defer d h => exact absurd hx id
  | recover h => exact absurd hx id
  | panic v h => exact absurd hx id
  | fail => exact absurd hx id
theorem exW_applyD {G : S → Prop} (hG : Back P G) {s : S} {r : R} {K : AV → H → Prop} {d : Draw} {i : Nat} {o : Oper} {rem : List (Nat × Oper)} (hw : d.wait = false) (hx : exW P r K) (hd : dstOk s.fr.nt o.dst = true)
    (hk : ∀ v h', K v h' → G ⟨{ s.fr with tm := s.fr.putD o.dst v, dr := some { d with rem, early := dropF (edgesOf o.after.toList) d.early } }, s.cs, h'⟩) :
    ∃ K0 s1, HookOk P K0 ∧ applyD P K0 s d i o rem r = some s1 ∧ G s1 := by
  have hfin : ∀ v, ({ s.fr with dr := some { d with rem := (i, o) :: rem, early := dropF (edgesOf o.after.toList) d.early, wait := true } } : AFrame).finish v = some { s.fr with tm := s.fr.putD o.dst v, dr := some { d with rem, early := dropF (edgesOf o.after.toList) d.early } } := by
    intro v
    simp only [AFrame.finish, AFrame.finishD, hd, hw, AFrame.putD]
  have hpush : ∀ {r : R}, (∀ s0, pushS P { s.fr with dr := some { d with rem := (i, o) :: rem, early := dropF (edgesOf o.after.toList) d.early, wait := true } } s.cs r = some s0 → applyD P noHook s d i o rem r = some s0) → PushC P r K →
      ∃ K0 s1, HookOk P K0 ∧ applyD P K0 s d i o rem r = some s1 ∧ G s1 := by
    intro r ha hc
    obtain ⟨s0, e, hl⟩ := hc { s.fr with dr := some { d with rem := (i, o) :: rem, early := dropF (edgesOf o.after.toList) d.early, wait := true } } s.cs (fun v => ⟨_, hfin v⟩)
    exact ⟨noHook, s0, noHook_ok P, ha _ e, hG _ _ hl (fun s' ⟨v, h', c', hq, hc', e'⟩ => by subst e'; rw [hfin] at hc'; cases hc'; exact hk _ _ hq)⟩
  cases r with
  | val v h => exact ⟨noHook, _, noHook_ok P, by simp only [applyD, hd], hk _ _ hx⟩
  | skip h => exact ⟨noHook, _, noHook_ok P, by simp only [applyD, hd], hk _ _ hx⟩
  | enter f args h =>
    rcases hx with hx | ⟨f1, a1, h1, K1, v, h', e, hK, e2, hq⟩
    · refine hpush ?_ hx
      intro s0 h0
      simp only [pushS] at h0
      split at h0
      · rename_i fr hen
        cases h0
        simp only [applyD, noHook, hen]
      · cases h0
    · cases e
      exact ⟨K1, _, hK, by simp only [applyD, e2, hd], hk _ _ hq⟩
  | round l args h =>
    rcases hx with hx | ⟨f1, a1, h1, K1, v, h', e, _⟩
    · refine hpush ?_ hx
      intro s0 h0
      simp only [pushS] at h0
      split at h0
      · rename_i r hr
        split at h0
        · rename_i tm htm
          cases h0
          simp only [applyD, hr, htm]
        · cases h0
      · cases h0
    · cases e
  | ext f args h =>
    obtain ⟨K1, v, h', hK, e2, hq⟩ := hx
    exact ⟨K1, _, hK, by simp only [applyD, e2, hd], hk _ _ hq⟩
  | defer d h => exact absurd hx id
  | recover h => exact absurd hx id
  | panic v h => exact absurd hx id
  | fail => exact absurd hx id
section
variable {G : S → Prop} {fn nt : Nat} {kd : CallKind} {ro : Option Nat} {ds : List Nat} {cs : List AFrame}
theorem opsW_sound (hG : Back P G) {ops : Array Oper} {k : List AItem} {Q : T AV → H → Prop} : ∀ {l : List Oper} {tm : T AV} {h : H}, opsW P nt ops l tm h Q → (∀ tm h, Q tm h → G ⟨mkF fn nt kd ro ds tm k, cs, h⟩) →
    G ⟨mkF fn nt kd ro ds tm (.ops ops l :: k), cs, h⟩
  | [], tm, h, hw, hq => hG.step0 rfl (hq _ _ hw)
  | o :: l, tm, h, hw, hq => by
    rw [opsW_cons] at hw
    have hfin : ∀ v, (mkF fn nt kd ro ds tm (.ops ops (o :: l) :: k)).finish v = some (mkF fn nt kd ro ds (putT nt tm o.dst v) (.ops ops l :: k)) := fun v => rfl
    have hgo : wantedA (mkF fn nt kd ro ds tm (.ops ops (o :: l) :: k)) ops o = true → exW P (execA P tm h o.op) (opK P nt ops o.dst l tm Q) → G ⟨mkF fn nt kd ro ds tm (.ops ops (o :: l) :: k), cs, h⟩ := by
      intro hwant hx
      obtain ⟨K0, s1, hK, ha, hg⟩ := exW_apply (s := ⟨mkF fn nt kd ro ds tm (.ops ops (o :: l) :: k), cs, h⟩) hG hx (fun v => ⟨_, hfin v⟩) (fun v h' c' hc' hv => by
        rw [hfin] at hc'; cases hc'
        exact opsW_sound hG hv hq)
      exact hG.step hK (by simp only [stepA, step1, hwant]; exact ha) hg
    have hno : wantedA (mkF fn nt kd ro ds tm (.ops ops (o :: l) :: k)) ops o = false → opK P nt ops o.dst l tm Q und h → G ⟨mkF fn nt kd ro ds tm (.ops ops (o :: l) :: k), cs, h⟩ := by
      intro hwant hx
      refine hG.step0 (s' := ⟨mkF fn nt kd ro ds (putT nt tm o.dst und) (.ops ops l :: k), cs, h⟩) (by simp only [stepA, step1, hwant]; rfl) (opsW_sound hG hx hq)
    unfold wantW at hw
    split at hw
    · rename_i hg
      exact hgo (by unfold wantedA; rw [hg]) hw
    · rename_i j want hg
      unfold dstOf at hw
      split at hw
      · rename_i d hd
        split at hw
        · rename_i b hb
          split at hd
          · rename_i oj hj
            have e : wantedA (mkF fn nt kd ro ds tm (.ops ops (o :: l) :: k)) ops o = (b == want) := by unfold wantedA; simp only [hg, hj, hd, hb]
            cases hbw : (b == want) with
            | true => exact hgo (e.trans hbw) (hw.1 hbw)
            | false => exact hno (e.trans hbw) (hw.2 hbw)
          · cases hd
        · rename_i hb
          split at hd
          · rename_i oj hj
            exact hno (by unfold wantedA; simp only [hg, hj, hd, hb]) hw
          · cases hd
        · exact absurd hw id
      · exact absurd hw id
theorem drawW_sound (hG : Back P G) {ops : Array Oper} {k : List AItem} {Q : T AV → H → Prop} : ∀ {rem : List (Nat × Oper)} {early : List (Nat × Oper × Nat)} {tm : T AV} {h : H}, drawW P nt ops rem early tm h Q →
    (∀ tm h, Q tm h → G ⟨mkF fn nt kd ro ds tm k, cs, h⟩) → G ⟨{ mkF fn nt kd ro ds tm k with dr := some ⟨ops, rem, early, false⟩ }, cs, h⟩
  | [], early, tm, h, hw, hq => hG.step0 (by simp only [stepA, stepD, hw.1]) (hq _ _ hw.2)
  | (i, o) :: rem, early, tm, h, hw, hq => by
    simp only [drawW] at hw
    split at hw
    · rename_i ha
      split at hw
      · rename_i t l hf
        exact hG.step0 (by simp only [stepA, stepD, ha, hf]; rfl) (drawW_sound hG hw hq)
      · exact absurd hw id
    · rename_i ha
      split at hw
      · rename_i v hv
        exact hG.step0 (by simp only [stepA, stepD, ha, hv]; rfl) (drawW_sound hG hw hq)
      · rename_i hv
        split at hw
        · rename_i hfl
          obtain ⟨h1, h2, hw⟩ := hw
          split at hw
          · rename_i t l n hf
            exact hG.step0 (by simp only [stepA, stepD, ha, hv, h1, hfl, h2, hf]; rfl) (drawW_sound hG hw hq)
          · exact absurd hw id
        rename_i hfl
        obtain ⟨h1, h2, h3, h4, h5⟩ := hw
        obtain ⟨K0, s1, hK, he, hg⟩ := exW_applyD (s := ⟨{ mkF fn nt kd ro ds tm k with dr := some ⟨ops, (i, o) :: rem, early, false⟩ }, cs, h⟩) (d := ⟨ops, (i, o) :: rem, early, false⟩) (i := i) (rem := rem) hG rfl h5 h4
          (fun v h' hv => drawW_sound hG hv hq)
        exact hG.step hK (by simp only [stepA, stepD, ha, hv, h1, h2, h3, Bool.not_true, Bool.and_false]; exact he) hg
theorem pickW_sound (hG : Back P G) {ops : Array Oper} {k : List AItem} {Q : T AV → H → Prop} {l : List Oper} {tm : T AV} {h : H} (hw : pickW P nt ops l tm h Q) (hq : ∀ tm h, Q tm h → G ⟨mkF fn nt kd ro ds tm k, cs, h⟩) :
    G ⟨mkF fn nt kd ro ds tm (.ops ops l :: k), cs, h⟩ := by
  cases l with
  | nil => exact absurd hw id
  | cons o l =>
    obtain ⟨hg, L, hL, hw⟩ := hw
    refine hG _ (fun s' => ∃ y, y ∈ L ∧ s' = ⟨mkF fn nt kd ro ds (putT nt tm o.dst y.1) (.ops ops l :: k), cs, y.2⟩) (fun N w0 bot φ fr cs' w hs => ?_) (fun s' ⟨y, hy, e⟩ => by subst e; exact opsW_sound hG (hw y hy) hq)
    obtain ⟨y, c', hy, hc', hgo⟩ := sim_pick (bot := bot) hs rfl rfl rfl (by unfold wantedA; rw [hg]) hL (fun v => ⟨_, rfl⟩)
    cases hc'
    exact ⟨_, ⟨y, hy, rfl⟩, hgo.n⟩
theorem codeW_sound (hG : Back P G) : ∀ (c : Code) (ds : List Nat) (tm : T AV) (h : H) (Q : KQ), codeW P fn nt ro c ds tm h Q → ∀ k : List AItem,
    (∀ ds tm h, Q .norm ds tm h → G ⟨mkF fn nt kd ro ds tm k, cs, h⟩) →
    (∀ i ds tm h k1, Q (.exit i) ds tm h → aExitTo i k1 = aExitTo i k → G ⟨mkF fn nt kd ro ds tm (.code (.exit i) :: k1), cs, h⟩) →
    (∀ ds tm h k1, Q .ret ds tm h → G ⟨mkF fn nt kd ro ds tm (.code .ret :: k1), cs, h⟩) → G ⟨mkF fn nt kd ro ds tm (.code c :: k), cs, h⟩ := by
  intro c
  induction c with
  | skip => intro ds tm h Q hw k hn he hr; exact hG.step0 rfl (hn _ _ _ hw)
  | label l => intro ds tm h Q hw k hn he hr; exact hG.step0 rfl (hn _ _ _ hw)
  | goto l => intro ds tm h Q hw; exact absurd hw id
  | refuse l => intro ds tm h Q hw; exact absurd hw id
  | exit id => intro ds tm h Q hw k hn he hr; exact he _ _ _ _ _ hw rfl
  | ret => intro ds tm h Q hw k hn he hr; exact hr _ _ _ _ hw
  | seq a b iha ihb =>
    intro ds tm h Q hw k hn he hr
    refine hG.step0 (s' := ⟨mkF fn nt kd ro ds tm (.code a :: .code b :: k), cs, h⟩) rfl ?_
    refine iha _ _ _ _ hw _ (fun ds tm h hq => ihb _ _ _ _ hq _ hn he hr) (fun i ds tm h k1 hq hk => he _ _ _ _ _ hq (by rw [hk]; rfl)) (fun ds tm h k1 hq => hr _ _ _ _ hq)
  | cond c a b iha ihb =>
    intro ds tm h Q hw k hn he hr
    simp only [codeW, condW] at hw
    split at hw
    · rename_i v t hv
      cases t with
      | true => exact hG.step0 (s' := ⟨mkF fn nt kd ro ds tm (.code a :: k), cs, h⟩) (by simp only [stepA, step1, hv]; rfl) (iha _ _ _ _ (hw.1 rfl) _ hn he hr)
      | false => exact hG.step0 (s' := ⟨mkF fn nt kd ro ds tm (.code b :: k), cs, h⟩) (by simp only [stepA, step1, hv]; rfl) (ihb _ _ _ _ (hw.2 rfl) _ hn he hr)
    · exact absurd hw id
  | block id c ih =>
    intro ds tm h Q hw k hn he hr
    refine hG.step0 (s' := ⟨mkF fn nt kd ro ds tm (.code c :: .inBlock id :: k), cs, h⟩) rfl ?_
    refine ih _ _ _ _ hw _ (fun ds tm h hq => hG.step0 rfl (hn _ _ _ hq)) (fun i ds tm h k1 hq hk => ?_) (fun ds tm h k1 hq => hr _ _ _ _ hq)
    simp only [blkK] at hq
    simp only [aExitTo] at hk
    split at hq
    · rename_i hb
      have := Nat.eq_of_beq_eq_true hb; subst this
      rw [Nat.beq_refl] at hk
      refine hG.step0 (s' := ⟨mkF fn nt kd ro ds tm k, cs, h⟩) (by simp only [stepA, step1, hk]; rfl) (hn _ _ _ hq)
    · rename_i hb
      have e : Nat.beq id i = false := by
        cases hc : Nat.beq id i with
        | false => rfl
        | true => have := Nat.eq_of_beq_eq_true hc; subst this; rw [Nat.beq_refl] at hb; cases hb
      rw [e] at hk
      exact he _ _ _ _ _ hq hk
  | loop c ih =>
    intro ds tm h Q hw k hn he hr
    refine hG.step0 (s' := ⟨mkF fn nt kd ro ds tm (.code c :: .inLoop c :: k), cs, h⟩) rfl ?_
    obtain ⟨Inv, n, hI, hstep⟩ := hw
    induction n using Nat.strongRecOn generalizing ds tm h with
    | ind n ihn =>
      refine ih _ _ _ _ (hstep n _ _ _ hI) _ (fun ds tm h hq => ?_) (fun i ds tm h k1 hq hk => he _ _ _ _ _ hq (by rw [hk]; rfl)) (fun ds tm h k1 hq => hr _ _ _ _ hq)
      obtain ⟨m, hm, hI'⟩ := hq
      exact hG.step0 (s' := ⟨mkF fn nt kd ro ds tm (.code c :: .inLoop c :: k), cs, h⟩) rfl (ihn m hm _ _ _ hI')
  | scope c ih =>
    intro ds tm h Q hw k hn he hr
    refine hG.step0 (s' := ⟨mkF fn nt kd ro ds tm (.code c :: .inScope c :: k), cs, h⟩) rfl ?_
    exact ih _ _ _ _ hw _ (fun ds tm h hq => hG.step0 rfl (hn _ _ _ hq)) (fun i ds tm h k1 hq hk => he _ _ _ _ _ hq (by rw [hk]; rfl)) (fun ds tm h k1 hq => hr _ _ _ _ hq)
  | region id ops draw =>
    intro ds tm h Q hw k hn he hr
    cases draw with
    | false => exact hG.step0 (s' := ⟨mkF fn nt kd ro ds tm (.ops ops ops.toList :: k), cs, h⟩) rfl (hw.elim (fun hw => opsW_sound hG hw fun tm h hq => hn _ _ _ hq) (fun hw => pickW_sound hG hw fun tm h hq => hn _ _ _ hq))
    | true =>
      simp only [codeW] at hw
      split at hw
      · rename_i d hm hd
        have hd' : d = ⟨d.ops, d.rem, [], false⟩ ∧ d.ops = ops := by
          unfold drawA at hd
          simp only at hd
          split at hd
          · cases hd; exact ⟨rfl, rfl⟩
          · cases hd
        refine hG.step0 (s' := ⟨{ mkF fn nt kd ro ds tm k with dr := some d }, cs, h⟩) (by simp only [stepA, step1, hm, hd]) ?_
        rw [hd'.1]
        exact drawW_sound hG hw fun tm h hq => hn _ _ _ hq
      · exact absurd hw _root_.id
  | rangeFunc f params a b _ _ =>
    intro ds tm h Q hw k hn he hr
    have hend : ∀ (l : Nat) (ds : List Nat) (h : H), rfEnd l ds tm Q h → G ⟨mkF fn nt kd ro ds tm (.endRangeFunc l :: k), cs, h⟩ := by
      intro l ds h hx
      unfold rfEnd at hx
      split at hx
      · rename_i r hl
        split at hx
        · exact absurd hx id
        · rename_i hst
          split at hx
          · rename_i hp
            refine hG.step0 ?_ (hn _ _ _ hx)
            simp only [stepA, step1, hl, hp]
          · rename_i i hp
            refine hG.step0 ?_ (he _ _ _ _ k hx rfl)
            simp only [stepA, step1, hl, hp]
          · rename_i hp
            refine hG.step0 ?_ (hr _ _ _ k hx)
            simp only [stepA, step1, hl, hp]
          · exact absurd hx id
      · exact absurd hx id
    simp only [codeW, rfW] at hw
    split at hw
    · rename_i fv hfv
      cases ro with
      | none =>
        simp only at hw
        unfold rfCall at hw
        split at hw
        · rename_i g args h2 hcv
          obtain ⟨s0, hp, hl⟩ := hw (mkF fn nt kd none (h.nx :: ds) tm (.inRangeFunc (h.nx + 1) :: k)) cs (fun v => ⟨_, rfl⟩)
          simp only [pushS] at hp
          split at hp
          · rename_i fr hen
            cases hp
            refine hG.step0 (s' := ⟨fr, mkF fn nt kd none (h.nx :: ds) tm (.inRangeFunc (h.nx + 1) :: k) :: cs, h2⟩) ?_ (hG _ _ hl (fun s' ⟨v, h', c', hx, hc', e'⟩ => by subst e'; cases hc'; exact hend _ _ _ hx))
            simp only [stepA, step1, enterLoopA, hfv]
            simp only [loopObj, H.alloc] at hcv
            simp only [H.alloc, hcv, hen]
            rfl
          · cases hp
        · exact absurd hw id
      | some l0 =>
        simp only at hw
        split at hw
        · rename_i r hl0
          unfold rfCall at hw
          split at hw
          · rename_i g args h2 hcv
            obtain ⟨s0, hp, hl⟩ := hw (mkF fn nt kd (some l0) ds tm (.inRangeFunc h.nx :: k)) cs (fun v => ⟨_, rfl⟩)
            simp only [pushS] at hp
            split at hp
            · rename_i fr hen
              cases hp
              refine hG.step0 (s' := ⟨fr, mkF fn nt kd (some l0) ds tm (.inRangeFunc h.nx :: k) :: cs, h2⟩) ?_ (hG _ _ hl (fun s' ⟨v, h', c', hx, hc', e'⟩ => by subst e'; cases hc'; exact hend _ _ _ hx))
              simp only [stepA, step1, enterLoopA, hfv, hl0]
              simp only [loopObj, H.alloc] at hcv
              simp only [H.alloc, hcv, hen]
              rfl
            · cases hp
          · exact absurd hw id
        · exact absurd hw id
    · exact absurd hw id
end
end
end
end Go.AX

namespace Go.AX
noncomputable section
open Go.RowKit
section
variable (P : Program)
def undef (h : H) : List Nat → Option H
  | [] => some h
  | d :: ds => match h.t.get d with
    | some (.deferred (some [])) => undef { h with t := h.t.set d (some (.deferred none)) } ds
    | _ => none
def retK (fn : Func) (Q : AV → H → Prop) : KQ := fun o ds tm h =>
  match o with
  | .exit _ => False
  | _ => ∃ h2, undef h ds = some h2 ∧ ∃ v, resA P fn tm h2 = some v ∧ Q v h2
@[simp] theorem undef_nil (h : H) : undef h [] = some h := rfl
@[simp] theorem retK_exit (fn : Func) (Q : AV → H → Prop) (i : Nat) (ds : List Nat) (tm : T AV) (h : H) : retK P fn Q (.exit i) ds tm h = False := rfl
theorem retK_norm (fn : Func) (Q : AV → H → Prop) (ds : List Nat) (tm : T AV) (h : H) : retK P fn Q .norm ds tm h = ∃ h2, undef h ds = some h2 ∧ ∃ v, resA P fn tm h2 = some v ∧ Q v h2 := rfl
theorem retK_ret (fn : Func) (Q : AV → H → Prop) (ds : List Nat) (tm : T AV) (h : H) : retK P fn Q .ret ds tm h = ∃ h2, undef h ds = some h2 ∧ ∃ v, resA P fn tm h2 = some v ∧ Q v h2 := rfl
def roundEnd (l : Nat) (Q : AV → H → Prop) : KQ := fun o _ _ h =>
  match h.t.get l with
  | some (.loop r) => match o with
    | .norm => Q (.bool true) { h with t := h.t.set l (some (.loop { r with state := .ready, pending := none })) }
    | .exit i => Q (.bool false) { h with t := h.t.set l (some (.loop { r with state := .done, pending := some (.exit i) })) }
    | .ret => Q (.bool false) { h with t := h.t.set l (some (.loop { r with state := .done, pending := some .ret })) }
  | _ => False
def roundK (fn nt : Nat) (l : Nat) (Q : AV → H → Prop) : KQ := fun o ds tm h =>
  match o with
  | .norm => match h.t.get l with
    | some (.loop r) => match r.state with
      | .ready => codeW P fn nt (some l) r.body ds tm { h with t := h.t.set l (some (.loop { r with state := .busy })) } (roundEnd l Q)
      | _ => False
    | _ => False
  | _ => False
end
section
variable {P : Program}
theorem unwind_sound {G : S → Prop} (hG : Back P G) {fn nt : Nat} {tm : T AV} {k : List AItem} {cs : List AFrame} : ∀ {ds : List Nat} {h h2 : H}, undef h ds = some h2 →
    G ⟨⟨fn, nt, tm, k, [], .returning, .normal, none, none⟩, cs, h2⟩ → G ⟨⟨fn, nt, tm, k, ds.map .collected, .returning, .normal, none, none⟩, cs, h⟩
  | [], h, h2, hu, hg => by cases hu; exact hg
  | d :: ds, h, h2, hu, hg => by
    simp only [undef] at hu
    split at hu
    · rename_i hd
      refine hG.step0 ?_ (unwind_sound hG hu hg)
      simp only [stepA, step1, unwindA, List.map_cons, hd, List.nil_append]
    · cases hu
theorem ret_sound {G : S → Prop} (hG : Back P G) {f nt : Nat} {fn : Func} {Q : AV → H → Prop} {cs : List AFrame} (hend : ∀ tm k h2 v, resA P fn tm h2 = some v → Q v h2 → G ⟨⟨f, nt, tm, k, [], .returning, .normal, none, none⟩, cs, h2⟩)
    {c : Code} {tm : T AV} {h : H} (hw : codeW P f nt none c [] tm h (retK P fn Q)) : G ⟨mkF f nt .normal none [] tm [.code c], cs, h⟩ := by
  refine codeW_sound hG c _ _ _ _ hw [] (fun ds tm h hq => ?_) (fun i ds tm h k1 hq => absurd hq id) (fun ds tm h k1 hq => ?_)
  · obtain ⟨h2, hu, v, hv, hq⟩ := hq
    exact hG.step0 (s' := ⟨⟨f, nt, tm, [], ds.map .collected, .returning, .normal, none, none⟩, cs, h⟩) rfl (unwind_sound hG hu (hend _ _ _ _ hv hq))
  · obtain ⟨h2, hu, v, hv, hq⟩ := hq
    exact hG.step0 (s' := ⟨⟨f, nt, tm, .code .ret :: k1, ds.map .collected, .returning, .normal, none, none⟩, cs, h⟩) rfl (unwind_sound hG hu (hend _ _ _ _ hv hq))
theorem enterA_eq {f : FuncId} {fn : Func} {c : Code} {args : List AV} (hf : P.funcs[f]? = some fn) (hb : fn.body = some c) :
    enterA P f args .normal = some (mkF f (Nat.max args.length fn.ntmps) .normal none [] (T.fill .e 0 args) [.code c]) := by
  simp only [enterA, hf, hb]; rfl
theorem pushC_of_codeW {f : FuncId} {fn : Func} {c : Code} {args : List AV} {h : H} {Q : AV → H → Prop} (hf : P.funcs[f]? = some fn) (hb : fn.body = some c)
    (hw : codeW P f (Nat.max args.length fn.ntmps) none c [] (T.fill .e 0 args) h (retK P fn Q)) : PushC P (.enter f args h) Q := by
  intro b cs hfin
  have hgo := ret_sound (cs := b :: cs) (back_leads (P := P) (BackAt b cs Q)) (fun tm k h2 v hv hq => by
    obtain ⟨c', hc⟩ := hfin v
    exact Leads.of_reach P (reach_one (noHook_ok P) (by simp only [stepA, step1, unwindA, hf, hv, doRet, hc])) ⟨v, h2, c', hq, hc, rfl⟩) hw
  exact ⟨_, by simp only [pushS, enterA_eq hf hb], hgo⟩
theorem pushC_round {l : Nat} {args : List AV} {h : H} {r : ALoop} {tm : T AV} {Q : AV → H → Prop} (hl : h.t.get l = some (.loop r)) (hp : setParams r.nt r.tm r.params args = some tm)
    (hw : codeW P r.fn r.nt (some l) r.assign [] tm h (fun o ds tm h => match o with
      | .norm => ds = [] ∧ ∃ r', h.t.get l = some (.loop r') ∧ r'.state = .ready ∧ codeW P r.fn r.nt (some l) r.body [] tm { h with t := h.t.set l (some (.loop { r' with state := .busy })) } (roundEnd l Q)
      | _ => False)) : PushC P (.round l args h) Q := by
  intro b cs hfin
  have hG := back_leads (P := P) (BackAt b cs Q)
  refine ⟨⟨mkF r.fn r.nt .normal (some l) [] tm [.code r.assign, .beginRound, .code r.body], b :: cs, h⟩, ?_⟩
  have hgo := codeW_sound (kd := .normal) (cs := b :: cs) hG r.assign _ _ _ _ hw [.beginRound, .code r.body] (fun ds tm h hq => ?_) (fun i ds tm h k1 hq => absurd hq id) (fun ds tm h k1 hq => absurd hq id)
  · exact ⟨by simp only [pushS, hl, hp]; rfl, hgo⟩
  · simp only at hq
    obtain ⟨rfl, r', hl', hst, hbody⟩ := hq
    refine hG.step0 (s' := ⟨mkF r.fn r.nt .normal (some l) [] tm [.code r.body], b :: cs, { h with t := h.t.set l (some (.loop { r' with state := .busy })) }⟩) (by simp only [stepA, step1, hl', hst]) ?_
    refine codeW_sound (kd := .normal) (cs := b :: cs) hG r.body _ _ _ _ hbody [] (fun ds tm h hq => ?_) (fun i ds tm h k1 hq hk1 => ?_) (fun ds tm h k1 hq => ?_)
    · unfold roundEnd at hq
      split at hq
      · rename_i r2 hl2
        obtain ⟨c', hc⟩ := hfin _
        exact Leads.of_reach P (reach_one (noHook_ok P) (by simp only [stepA, step1, leaveA, hl2, doRet, Option.isNone, hc, endSt])) ⟨_, _, c', hq, hc, rfl⟩
      · exact absurd hq id
    · unfold roundEnd at hq
      split at hq
      · rename_i r2 hl2
        have hx : aExitTo i k1 = none := hk1
        obtain ⟨c', hc⟩ := hfin _
        exact Leads.of_reach P (reach_one (noHook_ok P) (by simp only [stepA, step1, hx, leaveA, hl2, doRet, Option.isNone, hc, endSt])) ⟨_, _, c', hq, hc, rfl⟩
      · exact absurd hq id
    · unfold roundEnd at hq
      split at hq
      · rename_i r2 hl2
        obtain ⟨c', hc⟩ := hfin _
        exact Leads.of_reach P (reach_one (noHook_ok P) (by simp only [stepA, step1, leaveA, hl2, doRet, Option.isNone, hc, endSt])) ⟨_, _, c', hq, hc, rfl⟩
      · exact absurd hq id
theorem calls_of_codeW {f : FuncId} {fn : Func} {c : Code} {args : List AV} {h : H} {Q : AV → H → Prop} (hf : P.funcs[f]? = some fn) (hb : fn.body = some c)
    (hw : codeW P f (Nat.max args.length fn.ntmps) none c [] (T.fill .e 0 args) h (retK P fn Q)) {N : NN} {φ : Phi} {w : World} {cargs : Array Value} (hr : HR N φ h w) (hN : N.n ≤ w.heap.size) (ha : All2 (VR φ) args cargs.toList) :
    Calls P f cargs w fun e w' => ∃ N' : NN, ∃ φ' cv v h', N'.n = N.n ∧ e = .returned cv ∧ Q v h' ∧ φ.le φ' ∧ VR φ' v cv ∧ HR N' φ' h' w' ∧ Below N.n w w' := by
  have hgo := ret_sound (cs := []) (back_leads (P := P) (fun s1 => ∃ v h', Q v h' ∧ runA P noHook f 1 s1 = some (v, h'))) (fun tm k h2 v hv hq =>
    Leads.of_reach P (Reach.refl _) ⟨v, h2, hq, by simp [runA, doneA, hf, hv]⟩) hw
  intro bot
  have hen := enterA_eq (P := P) (args := args) hf hb
  have hsr : SR N w φ { fr := mkF f (Nat.max args.length fn.ntmps) .normal none [] (T.fill .e 0 args) [.code c], cs := [], h } (Frame.enter P f cargs .normal) [] w := ⟨.mk (enter_dr hen) (enter_rel ha hen), rfl, hr, Below.refl _ _, hN⟩
  obtain ⟨s1, ⟨v, h', hq, hc⟩, N1, φ1, fr1, cs1, w1, e1, l1, st1, sr1⟩ := hgo N w bot φ _ _ w hsr
  obtain ⟨N', φ', fr', w', cv, e, l, st, hf', hl, hv, hh, hbl⟩ := sim_run (noHook_ok P) (bot := bot) 1 N1 φ1 _ _ _ w1 v h' sr1 hc
  exact ⟨.returned cv, w', fr', ⟨N', φ', cv, v, h', e.trans e1, rfl, hq, Phi.le_trans l1 l, hv, hh, by rw [← e1]; exact hbl⟩, Steps.trans st1 st, hf', hl⟩
end
end
end Go.AX

namespace Go.AX
noncomputable section
open Go.RowKit
def bodyC (fn : Func) : Code :=
  match fn.body with
  | some c => c
  | none => .skip
def codeI (c : Code) (rp : List Nat) : Code := codeIn c rp.reverse
def isSeq : Code → Bool
  | .seq _ _ => true
  | _ => false
def isCond : Code → Bool
  | .cond _ _ _ => true
  | _ => false
def condOp : Code → Operand
  | .cond c _ _ => c
  | _ => .const (.bool false)
def isBlock : Code → Bool
  | .block _ _ => true
  | _ => false
def blockId : Code → Nat
  | .block i _ => i
  | _ => 0
def isLoop : Code → Bool
  | .loop _ => true
  | _ => false
def isExit : Code → Bool
  | .exit _ => true
  | _ => false
def exitId : Code → Nat
  | .exit i => i
  | _ => 0
def isRetC : Code → Bool
  | .ret => true
  | _ => false
def isSkipC : Code → Bool
  | .skip => true
  | .label _ => true
  | _ => false
def isReg : Code → Bool
  | .region _ _ false => true
  | _ => false
def isScope : Code → Bool
  | .scope _ => true
  | _ => false
theorem codeIn_append : ∀ (p q : List Nat) (c : Code), codeIn (codeIn c p) q = codeIn c (p ++ q)
  | [], q, c => by cases c <;> rfl
  | i :: p, q, c => by
    cases c with
    | seq a b => cases i <;> exact codeIn_append p q _
    | cond x a b => cases i <;> exact codeIn_append p q _
    | rangeFunc f ps a b => cases i <;> exact codeIn_append p q _
    | block j a => exact codeIn_append p q a
    | loop a => exact codeIn_append p q a
    | scope a => exact codeIn_append p q a
    | _ => cases q <;> rfl
theorem codeI_cons (c : Code) (i : Nat) (rp : List Nat) : codeI c (i :: rp) = codeIn (codeI c rp) [i] := by
  unfold codeI; rw [codeIn_append, List.reverse_cons]
section
variable {P : Program}
def codeK (P : Program) (fn nt : Nat) (ro : Option Nat) (c : Code) (Q : KQ) (ds : List Nat) (tm : T AV) (h : H) : Prop := codeW P fn nt ro c ds tm h Q
theorem codeIn_nil (c : Code) : codeIn c [] = c := by cases c <;> rfl
variable {fn nt : Nat} {ro : Option Nat} {c : Code} {rp : List Nat} {ds : List Nat} {tm : T AV} {h : H} {Q : KQ}
theorem st_seq (hc : isSeq (codeI c rp) = true) (hw : codeW P fn nt ro (codeI c (0 :: rp)) ds tm h (seqK (codeK P fn nt ro (codeI c (1 :: rp)) Q) Q)) : codeW P fn nt ro (codeI c rp) ds tm h Q := by
  rw [codeI_cons, codeI_cons] at hw
  revert hc hw; generalize codeI c rp = c; intro hc hw
  cases c <;> first | (cases hc; done) | (simp only [codeIn, codeIn_nil] at hw; exact hw)
theorem st_block (hc : isBlock (codeI c rp) = true) {i : Nat} (hi : blockId (codeI c rp) = i) (hw : codeW P fn nt ro (codeI c (0 :: rp)) ds tm h (blkK i Q)) : codeW P fn nt ro (codeI c rp) ds tm h Q := by
  rw [codeI_cons] at hw
  revert hc hi hw; generalize codeI c rp = c; intro hc hi hw
  cases c <;> first | (cases hc; done) | (simp only [codeIn, codeIn_nil] at hw; cases hi; exact hw)
theorem st_scope (hc : isScope (codeI c rp) = true) (hw : codeW P fn nt ro (codeI c (0 :: rp)) ds tm h Q) : codeW P fn nt ro (codeI c rp) ds tm h Q := by
  rw [codeI_cons] at hw
  revert hc hw; generalize codeI c rp = c; intro hc hw
  cases c <;> first | (cases hc; done) | (simp only [codeIn, codeIn_nil] at hw; exact hw)
theorem st_cond (hc : isCond (codeI c rp) = true) {x : Operand} (hx : condOp (codeI c rp) = x)
    (hw : condW (evalA tm x) (codeW P fn nt ro (codeI c (0 :: rp)) ds tm h Q) (codeW P fn nt ro (codeI c (1 :: rp)) ds tm h Q)) : codeW P fn nt ro (codeI c rp) ds tm h Q := by
  rw [codeI_cons, codeI_cons] at hw
  revert hc hx hw; generalize codeI c rp = c; intro hc hx hw
  cases c <;> first | (cases hc; done) | (simp only [codeIn, codeIn_nil] at hw; cases hx; exact hw)
theorem st_skip (hc : isSkipC (codeI c rp) = true) (hw : Q .norm ds tm h) : codeW P fn nt ro (codeI c rp) ds tm h Q := by
  revert hc; generalize codeI c rp = c; intro hc
  cases c <;> first | (cases hc; done) | exact hw
theorem st_exit (hc : isExit (codeI c rp) = true) {i : Nat} (hi : exitId (codeI c rp) = i) (hw : Q (.exit i) ds tm h) : codeW P fn nt ro (codeI c rp) ds tm h Q := by
  revert hc hi; generalize codeI c rp = c; intro hc hi
  cases c <;> first | (cases hc; done) | (cases hi; exact hw)
theorem st_ret (hc : isRetC (codeI c rp) = true) (hw : Q .ret ds tm h) : codeW P fn nt ro (codeI c rp) ds tm h Q := by
  revert hc; generalize codeI c rp = c; intro hc
  cases c <;> first | (cases hc; done) | exact hw
theorem st_reg (hc : isReg (codeI c rp) = true) {ops : Array Oper} {l : List Oper} (ho : regionOf (codeI c rp) = ops) (hl : ops.toList = l) (hw : opsW P nt ops l tm h (Q .norm ds)) : codeW P fn nt ro (codeI c rp) ds tm h Q := by
  revert hc ho; generalize codeI c rp = c; intro hc ho
  cases c with
  | region i ops' d => cases d with
    | false => cases ho; cases hl; exact .inl hw
    | true => cases hc
  | _ => cases hc
theorem st_pick (hc : isReg (codeI c rp) = true) {ops : Array Oper} {o : Oper} {l : List Oper} (ho : regionOf (codeI c rp) = ops) (hl : ops.toList = o :: l) (hg : o.guard = none) {L : List (AV × H)} (hL : pickA tm h o.op = some L)
    (hw : ∀ y, y ∈ L → opsW P nt ops l (putT nt tm o.dst y.1) y.2 (Q .norm ds)) : codeW P fn nt ro (codeI c rp) ds tm h Q := by
  revert hc ho; generalize codeI c rp = c; intro hc ho
  cases c with
  | region i ops' d => cases d with
    | false =>
      cases ho
      have hl : ops'.toList = o :: l := hl
      refine .inr ?_
      rw [hl]
      exact ⟨hg, L, hL, hw⟩
    | true => cases hc
  | _ => cases hc
theorem st_loop (Inv : Nat → List Nat → T AV → H → Prop) (n : Nat) (hc : isLoop (codeI c rp) = true) (h0 : Inv n ds tm h)
    (hw : ∀ n ds tm h, Inv n ds tm h → codeW P fn nt ro (codeI c (0 :: rp)) ds tm h (loopK Inv n Q)) : codeW P fn nt ro (codeI c rp) ds tm h Q := by
  simp only [codeI_cons] at hw
  revert hc hw; generalize codeI c rp = c; intro hc hw
  cases c <;> first | (cases hc; done) | (simp only [codeIn, codeIn_nil] at hw; exact ⟨Inv, n, h0, hw⟩)
theorem codeW_root (hw : codeW P fn nt ro (codeI c []) ds tm h Q) : codeW P fn nt ro c ds tm h Q := by
  have e : codeI c [] = c := codeIn_nil c
  rw [e] at hw; exact hw
theorem seqK_norm (f : List Nat → T AV → H → Prop) (Q : KQ) : seqK f Q .norm ds tm h = f ds tm h := id rfl
theorem seqK_exit (f : List Nat → T AV → H → Prop) (Q : KQ) (i : Nat) : seqK f Q (.exit i) ds tm h = Q (.exit i) ds tm h := id rfl
theorem seqK_ret (f : List Nat → T AV → H → Prop) (Q : KQ) : seqK f Q .ret ds tm h = Q .ret ds tm h := id rfl
theorem blkK_norm (i : Nat) (Q : KQ) : blkK i Q .norm ds tm h = Q .norm ds tm h := id rfl
theorem blkK_exit (i j : Nat) (Q : KQ) : blkK i Q (.exit j) ds tm h = if j = i then Q .norm ds tm h else Q (.exit j) ds tm h := by
  show (match Nat.beq j i with | true => _ | false => _) = _
  by_cases e : j = i
  · subst e; rw [Nat.beq_refl, if_pos rfl]
  · have : Nat.beq j i = false := by
      cases hb : Nat.beq j i with
      | false => rfl
      | true => exact absurd (Nat.eq_of_beq_eq_true hb) e
    rw [this, if_neg e]
theorem blkK_ret (i : Nat) (Q : KQ) : blkK i Q .ret ds tm h = Q .ret ds tm h := id rfl
theorem loopK_norm (Inv : Nat → List Nat → T AV → H → Prop) (n : Nat) (Q : KQ) : loopK Inv n Q .norm ds tm h = ∃ m, m < n ∧ Inv m ds tm h := id rfl
theorem loopK_exit (Inv : Nat → List Nat → T AV → H → Prop) (n : Nat) (Q : KQ) (i : Nat) : loopK Inv n Q (.exit i) ds tm h = Q (.exit i) ds tm h := id rfl
theorem loopK_ret (Inv : Nat → List Nat → T AV → H → Prop) (n : Nat) (Q : KQ) : loopK Inv n Q .ret ds tm h = Q .ret ds tm h := id rfl
theorem codeK_def (c : Code) : codeK P fn nt ro c Q ds tm h = codeW P fn nt ro c ds tm h Q := id rfl
def guardV (tm : T AV) (ops : Array Oper) (g : Nat × Bool) : Option Bool :=
  match dstOf ops g.1 with
  | some d => match tm.get d with
    | some (.bool b) => some (b == g.2)
    | some (.tuple []) => some false
    | _ => none
  | none => none
def gW (P : Program) (b : Option Bool) (nt : Nat) (ops : Array Oper) (o : Op) (d : Option Tmp) (l : List Oper) (tm : T AV) (h : H) (Q : T AV → H → Prop) : Prop :=
  match b with
  | some true => exW P (execA P tm h o) (opK P nt ops d l tm Q)
  | some false => opK P nt ops d l tm Q und h
  | none => False
theorem gW_true (nt : Nat) (ops : Array Oper) (o : Op) (d : Option Tmp) (l : List Oper) (Q : T AV → H → Prop) : gW P (some true) nt ops o d l tm h Q = exW P (execA P tm h o) (opK P nt ops d l tm Q) := id rfl
theorem gW_false (nt : Nat) (ops : Array Oper) (o : Op) (d : Option Tmp) (l : List Oper) (Q : T AV → H → Prop) : gW P (some false) nt ops o d l tm h Q = opK P nt ops d l tm Q und h := id rfl
theorem opsW_none (nt : Nat) (ops : Array Oper) (d : Option Tmp) (o : Op) (t : TypeId) (pos : String) (a : Array Edge) (l : List Oper) (Q : T AV → H → Prop) :
    opsW P nt ops ({ dst := d, op := o, type := t, pos := pos, after := a, guard := none } :: l) tm h Q = exW P (execA P tm h o) (opK P nt ops d l tm Q) := id rfl
theorem opsW_guard (nt : Nat) (ops : Array Oper) (d : Option Tmp) (o : Op) (t : TypeId) (pos : String) (a : Array Edge) (g : Nat × Bool) (l : List Oper) (Q : T AV → H → Prop) :
    opsW P nt ops ({ dst := d, op := o, type := t, pos := pos, after := a, guard := some g } :: l) tm h Q ↔ gW P (guardV tm ops g) nt ops o d l tm h Q := by
  rw [opsW_cons]
  obtain ⟨j, want⟩ := g
  unfold wantW guardV gW
  simp only
  cases dstOf ops j with
  | none => exact Iff.rfl
  | some d =>
    simp only
    cases tm.get d with
    | none => exact Iff.rfl
    | some v =>
      cases v with
      | bool b =>
        simp only
        cases hx : (b == want) <;> simp [ifB]
      | tuple l => cases l <;> exact Iff.rfl
      | _ => exact Iff.rfl
theorem opK_def (nt : Nat) (ops : Array Oper) (d : Option Tmp) (l : List Oper) (Q : T AV → H → Prop) (v : AV) : opK P nt ops d l tm Q v h = opsW P nt ops l (putT nt tm d v) h Q := id rfl
theorem putT_some (nt d : Nat) (v : AV) : putT nt tm (some d) v = if d < nt then tm.set d (some v) else tm := by
  unfold putT
  by_cases e : d < nt
  · have : Nat.blt d nt = true := by rw [Nat.blt_eq]; exact e
    simp only [this, if_pos e]
  · have : Nat.blt d nt = false := by rw [← Bool.not_eq_true, Nat.blt_eq]; exact e
    simp only [this, if_neg e]
theorem putT_no (nt : Nat) (v : AV) : putT nt tm none v = tm := id rfl
end
def cellAt (h : H) (b o : Nat) : Option AV :=
  match h.t.get b with
  | some (.cells _ cs _ _) => cs.get o
  | _ => none
def wrAt (h : H) (b : Nat) : Bool :=
  match h.t.get b with
  | some (.cells _ _ _ false) => true
  | _ => false
def setL (cs : T AV) (o : Nat) : List AV → T AV
  | [] => cs
  | v :: l => setL (cs.set o (some v)) (o + 1) l
def H.sts (h : H) (b o : Nat) (l : List AV) : H :=
  match h.t.get b with
  | some (.cells n cs k false) => { h with t := h.t.set b (some (.cells n (setL cs o l) k false)) }
  | _ => h
def hasAll (h : H) (b o : Nat) : Nat → Bool
  | 0 => true
  | k + 1 => (cellAt h b o).isSome && hasAll h b (o + 1) k
theorem hasAll_zero (h : H) (b o : Nat) : hasAll h b o 0 = true := id rfl
theorem hasAll_succ (h : H) (b o k : Nat) : hasAll h b o (k + 1) = ((cellAt h b o).isSome && hasAll h b (o + 1) k) := id rfl
theorem setL_get : ∀ (l : List AV) (cs : T AV) (o j : Nat), (setL cs o l).get j = if o ≤ j ∧ j < o + l.length then l[j - o]? else cs.get j
  | [], cs, o, j => by simp only [setL, List.length_nil]; rw [if_neg (by omega)]
  | v :: l, cs, o, j => by
    simp only [setL, setL_get l, T.get_set, List.length_cons]
    by_cases e : j = o
    · subst e; rw [if_neg (by omega), if_pos rfl, if_pos (by omega)]; simp
    · by_cases q : o + 1 ≤ j ∧ j < o + 1 + l.length
      · rw [if_pos q, if_pos (by omega), show j - o = (j - (o + 1)) + 1 by omega]; simp
      · rw [if_neg q, if_neg e, if_neg (by omega)]
theorem putCells_setL : ∀ (l : List AV) (cs : T AV) (o : Nat), allOne l = true → (∀ i, i < l.length → cs.get (o + i) ≠ none) → H.putCells cs o l = some (setL cs o l)
  | [], _, _, _, _ => rfl
  | v :: l, cs, o, ho, hc => by
    simp only [allOne] at ho
    split at ho
    · rename_i hv
      have h0 := hc 0 (by simp)
      simp only [Nat.add_zero] at h0
      cases hg : cs.get o with
      | none => exact absurd hg h0
      | some x =>
        simp only [H.putCells, hv, hg, setL]
        refine putCells_setL l _ _ ho (fun i hi => ?_)
        rw [T.get_set, if_neg (by omega), show o + 1 + i = o + (i + 1) by omega]
        exact hc _ (by simp only [List.length_cons]; omega)
    · cases ho
theorem putRow_short {cs : T AV} {o : Nat} {l : List AV} (hl : lenGe 300 l = false) : H.putRow cs o l = H.putCells cs o l := by
  unfold H.putRow
  split
  · simp only [hl, Bool.false_and]
  · rfl
theorem hasAll_get {h : H} {b : Nat} : ∀ {k o : Nat}, hasAll h b o k = true → ∀ i, i < k → cellAt h b (o + i) ≠ none
  | 0, _, _, i, hi => by omega
  | k + 1, o, hh, i, hi => by
    rw [hasAll_succ, Bool.and_eq_true] at hh
    cases i with
    | zero => intro e; rw [Nat.add_zero] at e; rw [e] at hh; cases hh.1
    | succ i => have := hasAll_get hh.2 i (by omega); rwa [show o + 1 + i = o + (i + 1) by omega] at this
theorem put_sts {h : H} {b o : Nat} {l : List AV} (hw : wrAt h b = true) (hc : hasAll h b o l.length = true) (ho : allOne l = true) (hl : lenGe 300 l = false) : h.put b o l = some (h.sts b o l) := by
  unfold wrAt at hw
  split at hw
  · rename_i n cs k hb
    have : H.putRow cs o l = some (setL cs o l) := by
      rw [putRow_short hl]
      refine putCells_setL l cs o ho (fun i hi => ?_)
      have := hasAll_get hc i hi
      unfold cellAt at this
      rwa [hb] at this
    unfold H.put H.sts
    simp only [hb, this]
  · cases hw
theorem cellAt_sts {h : H} {b o : Nat} {l : List AV} (hw : wrAt h b = true) (b' o' : Nat) : cellAt (h.sts b o l) b' o' = if b' = b ∧ o ≤ o' ∧ o' < o + l.length then l[o' - o]? else cellAt h b' o' := by
  unfold wrAt at hw
  split at hw
  · rename_i n cs k hb
    unfold H.sts cellAt
    simp only [hb, T.get_set]
    by_cases e : b' = b
    · subst e
      simp only [if_true, true_and, setL_get, hb]
    · simp only [e, if_false, false_and]
  · cases hw
theorem wrAt_sts (h : H) (b o : Nat) (l : List AV) (b' : Nat) : wrAt (h.sts b o l) b' = wrAt h b' := by
  unfold H.sts
  split
  · rename_i n cs k hb
    unfold wrAt
    simp only [T.get_set]
    by_cases e : b' = b
    · subst e; simp only [if_true, hb]
    · simp only [e, if_false]
  · rfl
theorem nx_sts (h : H) (b o : Nat) (l : List AV) : (h.sts b o l).nx = h.nx := by
  unfold H.sts; split <;> rfl
theorem get_sts (h : H) (b o : Nat) (l : List AV) {b' : Nat} (hb : b' ≠ b) : (h.sts b o l).t.get b' = h.t.get b' := by
  unfold H.sts; split
  · simp only [T.get_set, hb, if_false]
  · rfl
theorem cellAt_new (h : H) (t : TypeId) (l : List AV) (b o : Nat) : cellAt (h.newCells t l) b o = if b = h.nx then l[o]? else cellAt h b o := by
  unfold cellAt H.newCells H.alloc
  simp only [T.get_set]
  by_cases e : b = h.nx
  · subst e; simp only [if_true, T.get_ofRow]
  · simp only [e, if_false]
theorem wrAt_new (h : H) (t : TypeId) (l : List AV) (b : Nat) : wrAt (h.newCells t l) b = if b = h.nx then true else wrAt h b := by
  unfold wrAt H.newCells H.alloc
  simp only [T.get_set]
  by_cases e : b = h.nx
  · subst e; simp only [if_true]
  · simp only [e, if_false]
theorem nx_new (h : H) (t : TypeId) (l : List AV) : (h.newCells t l).nx = h.nx + 1 := id rfl
theorem get_new (h : H) (t : TypeId) (l : List AV) {b : Nat} (hb : b ≠ h.nx) : (h.newCells t l).t.get b = h.t.get b := by
  unfold H.newCells H.alloc; simp only [T.get_set, hb, if_false]
def seqO : List (Option AV) → Option (List AV)
  | [] => some []
  | some v :: l => match seqO l with
    | some r => some (v :: r)
    | none => none
  | none :: _ => none
theorem row_seqO (h : H) (b : Nat) : ∀ (k o : Nat), H.row h b o (k + 1) = seqO ((List.range' o (k + 1)).map (cellAt h b)) := by
  unfold H.row cellAt
  cases hb : h.t.get b with
  | none => intro k o; rfl
  | some x =>
    cases x with
    | cells n cs esz ro =>
      simp only [loadRow_eq]
      have hz : ∀ (k o : Nat), H.loadCells cs o k = seqO ((List.range' o k).map fun o => cs.get o) := by
        intro k
        induction k with
        | zero => intro o; rfl
        | succ k ih =>
          intro o
          simp only [H.loadCells, List.range'_succ, List.map_cons, ih (o + 1)]
          cases cs.get o with
          | none => rfl
          | some v => simp only [seqO]; cases seqO _ <;> rfl
      exact fun k o => hz (k + 1) o
    | _ => intro k o; rfl
theorem loadV_one {P : Program} {t : TypeId} (ht : aggT P t = false) (h : H) (b o : Nat) : loadV P h t b o = cellAt h b o := by
  unfold loadV cellAt; rw [ht]; rfl
theorem loadV_agg {P : Program} {t : TypeId} {k : Nat} (ht : aggT P t = true) (hk : P.cellsOf t = k + 1) (h : H) (b o : Nat) : loadV P h t b o = (seqO ((List.range' o (k + 1)).map (cellAt h b))).map .agg := by
  unfold loadV; rw [ht, hk, row_seqO]
  cases seqO _ <;> rfl
end
end Go.AX

namespace Go.AX
noncomputable section
open Go.RowKit
section
variable {P : Program} {tm : T AV} {h : H}
theorem gW_split {b w : Bool} {nt : Nat} {ops : Array Oper} {o : Op} {d : Option Tmp} {l : List Oper} {Q : T AV → H → Prop}
    (h1 : b = w → exW P (execA P tm h o) (opK P nt ops d l tm Q)) (h2 : b = (!w) → opK P nt ops d l tm Q und h) : gW P (some (b == w)) nt ops o d l tm h Q := by
  cases b <;> cases w <;> first | exact h1 rfl | exact h2 rfl
theorem ifB_split {b : Bool} {p q : Prop} (h1 : b = true → p) (h2 : b = false → q) : ifB b p q := ⟨h1, h2⟩
theorem bb_tt : (true == true) = true := id rfl
theorem bb_tf : (true == false) = false := id rfl
theorem bb_ft : (false == true) = false := id rfl
theorem bb_ff : (false == false) = true := id rfl
theorem ofVal_lit (k : IntKind) (n : Nat) : ofVal (.int k (no_index (@OfNat.ofNat Int n instOfNat))) = some (.int k (Int.ofNat (@OfNat.ofNat Nat n (instOfNatNat n)))) := id rfl
theorem ofVal_negSucc (k : IntKind) (n : Nat) : ofVal (.int k (Int.negSucc n)) = some (.int k (Int.negSucc n)) := id rfl
theorem ofVal_neg (k : IntKind) (n : Nat) : ofVal (.int k (-(no_index (@OfNat.ofNat Int n instOfNat)))) = some (.int k (-(Int.ofNat (@OfNat.ofNat Nat n (instOfNatNat n))))) := id rfl
theorem ofVal_bool (b : Bool) : ofVal (.bool b) = some (.bool b) := id rfl
theorem ofVal_str (s : ByteArray) : ofVal (.string s) = some (.str (bytesOf s)) := id rfl
theorem ofVal_nilptr : ofVal (.pointer none) = some .nilptr := id rfl
theorem ofVal_nilslice : ofVal (.slice none 0 0) = some .nilslice := id rfl
theorem ofVal_nilmap : ofVal (.map none) = some .nilmap := id rfl
theorem ofVal_nilFunc : ofVal .nilFunc = some .nilFunc := id rfl
theorem ofVal_nilIface : ofVal .nilIface = some .nilIface := id rfl
def orUnd : Option AV → Option AV
  | some v => some v
  | none => some und
theorem orUnd_some (v : AV) : orUnd (some v) = some v := id rfl
theorem orUnd_none : orUnd none = some und := id rfl
def ob (x : Option AV) (k : AV → R) : R :=
  match x with
  | some v => k v
  | none => .fail
theorem ob_some (v : AV) (k : AV → R) : ob (some v) k = k v := id rfl
theorem ob_none (k : AV → R) : ob none k = .fail := id rfl
def obs (x : Option (List AV)) (k : List AV → R) : R :=
  match x with
  | some v => k v
  | none => .fail
theorem obs_some (v : List AV) (k : List AV → R) : obs (some v) k = k v := id rfl
def obp (x : Option (List (Nat × AV))) (k : List (Nat × AV) → R) : R :=
  match x with
  | some v => k v
  | none => .fail
theorem obp_some (v : List (Nat × AV)) (k : List (Nat × AV) → R) : obp (some v) k = k v := id rfl
def obo (x : Option (Option AV)) (k : Option AV → R) : R :=
  match x with
  | some v => k v
  | none => .fail
theorem obo_some (v : Option AV) (k : Option AV → R) : obo (some v) k = k v := id rfl
def obh (x : Option H) : R :=
  match x with
  | some h => .skip h
  | none => .fail
theorem obh_some (h : H) : obh (some h) = .skip h := id rfl
def consO (x : Option AV) (l : Option (List AV)) : Option (List AV) :=
  match x with
  | none => none
  | some v => match l with
    | none => none
    | some vs => some (v :: vs)
theorem consO_some (v : AV) (l : List AV) : consO (some v) (some l) = some (v :: l) := id rfl
def consP (i : Nat) (x : Option AV) (l : Option (List (Nat × AV))) : Option (List (Nat × AV)) :=
  match x with
  | none => none
  | some v => match l with
    | none => none
    | some vs => some ((i, v) :: vs)
theorem consP_some (i : Nat) (v : AV) (l : List (Nat × AV)) : consP i (some v) (some l) = some ((i, v) :: l) := id rfl
def mapO (x : Option AV) : Option (Option AV) :=
  match x with
  | none => none
  | some v => some (some v)
theorem mapO_some (v : AV) : mapO (some v) = some (some v) := id rfl
theorem evalA_tmp (t : Tmp) : evalA tm (.tmp t) = orUnd (tm.get t) := by show (match tm.get t with | some v => some v | none => some und) = _; cases tm.get t <;> rfl
theorem evalA_const (v : Value) : evalA tm (.const v) = ofVal v := id rfl
theorem evalA_func (f : FuncId) : evalA tm (.func f) = some (.func f [] []) := id rfl
theorem evalG_tmp (t : Tmp) : evalG tm h (.tmp t) = orUnd (tm.get t) := evalA_tmp t
theorem evalG_const (v : Value) : evalG tm h (.const v) = ofVal v := id rfl
theorem evalsA_nil : evalsA tm [] = some [] := id rfl
theorem evalsA_cons (x : Operand) (l : List Operand) : evalsA tm (x :: l) = consO (evalA tm x) (evalsA tm l) := id rfl
theorem evalP_nil : evalP tm [] = some [] := id rfl
theorem evalP_cons (i : Nat) (x : Operand) (l : List (Nat × Operand)) : evalP tm ((i, x) :: l) = consP i (evalA tm x) (evalP tm l) := id rfl
theorem evalO_none : evalO tm none = some none := id rfl
theorem evalO_some (x : Operand) : evalO tm (some x) = mapO (evalA tm x) := id rfl
def pickR2 (c : AV) (a b : R) : R :=
  match c with
  | .bool true => a
  | .bool false => b
  | _ => .fail
theorem pick_true (a b : R) : pickR2 (.bool true) a b = a := id rfl
theorem pick_false (a b : R) : pickR2 (.bool false) a b = b := id rfl
theorem ex_move (x : Operand) : execA P tm h (.move x) = ob (evalA tm x) fun v => .val v h := by unfold execA optV ob; rfl
theorem ex_assign (x : Operand) : execA P tm h (.assign x) = ob (evalA tm x) fun v => .val v h := by unfold execA optV ob; rfl
theorem ex_pick (c a b : Operand) : execA P tm h (.pick c a b) = ob (evalA tm c) fun c => pickR2 c (ob (evalA tm a) fun v => .val v h) (ob (evalA tm b) fun v => .val v h) := by
  simp only [execA]
  cases evalA tm c with
  | none => rfl
  | some c => cases c with
    | bool t => cases t <;> rfl
    | _ => rfl
theorem ex_alloc (t : TypeId) : execA P tm h (.alloc t) = ob (zeroA P t) fun z => .val (.ptr h.nx 0) (h.newCells t z.cells) := by unfold execA ob; rfl
def boxR (h : H) (t : TypeId) (l : List AV) : R :=
  match allOne l with
  | true => .val (.ptr h.nx 0) (h.newCells t l)
  | false => .fail
theorem boxR_ok {t : TypeId} {l : List AV} (ho : allOne l = true) : boxR h t l = .val (.ptr h.nx 0) (h.newCells t l) := by unfold boxR; rw [ho]
theorem ex_box (t : TypeId) (x : Operand) : execA P tm h (.box t x) = ob (evalA tm x) fun v => boxR h t v.cells := by unfold execA ob boxR; rfl
theorem ex_build (t : TypeId) (parts : Array (Nat × Operand)) : execA P tm h (.build t parts) = obp (evalP tm parts.toList) fun l => ob (buildA P t l) fun v => .val v h := by unfold execA obp ob optV; rfl
theorem ex_buildSlice (t : TypeId) (n : Nat) (parts : Array (Nat × Operand)) : execA P tm h (.buildSlice t n parts) = obp (evalP tm parts.toList) fun l => buildSliceA P t n l h := by unfold execA obp; rfl
def ptrR (v : AV) (k : Nat → Nat → R) : R :=
  match v with
  | .ptr b o => k b o
  | _ => .fail
theorem ptrR_ptr (b o : Nat) (k : Nat → Nat → R) : ptrR (.ptr b o) k = k b o := id rfl
theorem ex_load {t : TypeId} (ht : okT P t = true) (x : Operand) : execA P tm h (.load t x) = ob (evalG tm h x) fun v => ptrR v fun b o => ob (loadV P h t b o) fun v => .val v h := by
  simp only [execA, ht]
  cases evalG tm h x with
  | none => rfl
  | some v => cases v <;> rfl
theorem ex_store {t : TypeId} (ht : okT P t = true) (x y : Operand) : execA P tm h (.store t x y) = ob (evalA tm x) fun v => ob (evalA tm y) fun w => ptrR v fun b o => obh (storeV P h t b o w) := by
  simp only [execA, ht]
  cases evalA tm x with
  | none => cases evalA tm y <;> rfl
  | some v => cases evalA tm y with
    | none => cases v <;> rfl
    | some w => cases v <;> rfl
def nilR (h : H) (v : AV) : R :=
  match v with
  | .nilptr => .fail
  | .nilIface => .fail
  | .nilFunc => .fail
  | v => .val v h
theorem nilR_ptr (b o : Nat) : nilR h (.ptr b o) = .val (.ptr b o) h := id rfl
theorem nilR_func (f : FuncId) (a c : List AV) : nilR h (.func f a c) = .val (.func f a c) h := id rfl
theorem ex_nilCheck (x : Operand) : execA P tm h (.nilCheck x) = ob (evalA tm x) fun v => nilR h v := by
  simp only [execA]
  cases evalA tm x with
  | none => rfl
  | some v => cases v <;> rfl
def binR (P : Program) (h : H) (op : BinOp) (t : TypeId) (x y : Operand) (a b : AV) : R :=
  match apartA h a b with
  | true => apartV P op t h
  | false => optV h (binA P op t x y a b)
theorem ex_binOp (op : BinOp) (t u : TypeId) (x y : Operand) : execA P tm h (.binOp op t x y u) = ob (evalA tm x) fun a => ob (evalA tm y) fun b => binR P h op t x y a b := by
  simp only [execA]
  cases evalA tm x with
  | none => cases evalA tm y <;> rfl
  | some v => cases evalA tm y <;> rfl
def notR (h : H) (v : AV) : R :=
  match v with
  | .bool b => .val (.bool !b) h
  | _ => .fail
theorem notR_bool (b : Bool) : notR h (.bool b) = .val (.bool !b) h := id rfl
theorem ex_unNot (t : TypeId) (x : Operand) : execA P tm h (.unOp .not t x) = ob (evalA tm x) fun v => notR h v := by
  simp only [execA]
  cases evalA tm x with
  | none => rfl
  | some v => cases v <;> rfl
def funcR (f : FuncId) (a c : Option (List AV)) (k : AV → R) : R :=
  match a, c with
  | some a, some c => k (.func f a c)
  | _, _ => .fail
theorem funcR_some (f : FuncId) (a c : List AV) (k : AV → R) : funcR f (some a) (some c) k = k (.func f a c) := id rfl
theorem ex_makeFunc (f : FuncId) (first cap : Array Operand) : execA P tm h (.makeFunc (.func f) first cap) = funcR f (evalsA tm first.toList) (evalsA tm cap.toList) fun v => .val v h := by
  simp only [execA, funcR]
  cases evalsA tm first.toList with
  | none => cases evalsA tm cap.toList <;> rfl
  | some a => cases evalsA tm cap.toList <;> rfl
theorem ex_fieldAddr (t : TypeId) (x : Operand) (i : Nat) : execA P tm h (.fieldAddr t x i) = ob (evalG tm h x) fun v => ob (fieldAddrA P t v i) fun v => .val v h := by unfold execA ob optV; rfl
theorem ex_field (t : TypeId) (x : Operand) (i : Nat) : execA P tm h (.field t x i) = ob (evalA tm x) fun v => ob (fieldA P t v i) fun v => .val v h := by unfold execA ob optV; rfl
theorem ex_indexAddr (t : TypeId) (x i : Operand) : execA P tm h (.indexAddr t x i) = ob (evalG tm h x) fun v => ob (evalA tm i) fun j => ob (indexAddrA P t v j) fun v => .val v h := by
  simp only [execA]
  cases evalG tm h x with
  | none => cases evalA tm i <;> rfl
  | some v => cases evalA tm i <;> rfl
theorem ex_index (t : TypeId) (x i : Operand) : execA P tm h (.index t x i) = ob (evalA tm x) fun v => ob (evalA tm i) fun j => ob (indexA P t v j) fun v => .val v h := by
  simp only [execA]
  cases evalA tm x with
  | none => cases evalA tm i <;> rfl
  | some v => cases evalA tm i <;> rfl
def tupR (i : Nat) (v : AV) (k : AV → R) : R :=
  match v with
  | .tuple vs => ob vs[i]? k
  | _ => .fail
theorem tupR_tuple (i : Nat) (vs : List AV) (k : AV → R) : tupR i (.tuple vs) k = ob vs[i]? k := id rfl
theorem ex_extract (x : Operand) (i : Nat) : execA P tm h (.extract x i) = ob (evalA tm x) fun v => tupR i v fun v => .val v h := by
  simp only [execA]
  cases evalA tm x with
  | none => rfl
  | some v => cases v <;> rfl
theorem ex_call (f : Operand) (args : Array Operand) (ats : Array TypeId) : execA P tm h (.call ⟨.value f, args, ats⟩) = obs (evalsA tm args.toList) fun vs => ob (evalA tm f) fun fv => callV P fv vs h := by
  simp only [execA]
  cases evalsA tm args.toList with
  | none => rfl
  | some vs => cases evalA tm f <;> rfl
theorem ex_builtin (b : Builtin) (args : Array Operand) (ats : Array TypeId) : execA P tm h (.call ⟨.builtin b, args, ats⟩) = obs (evalsA tm args.toList) fun vs => builtinA P b ats.toList vs h := by
  simp only [execA]
  cases evalsA tm args.toList <;> rfl
theorem callV_func (f : FuncId) (hf : enterOk P f = true) (first cap args : List AV) : callV P (.func f first cap) args h = .enter f (first ++ args ++ cap) h := by
  simp only [callV, hf]
theorem callV_yield (l : Nat) (args : List AV) : callV P (.yield l) args h = .round l args h := id rfl
section
variable {t e : TypeId} {x y : Operand}
theorem eqB_self (k : IntKind) : IntKind.eqB k k = true := by cases k <;> rfl
theorem b_eql (k : IntKind) (m n : Int) : binR P h .eql t x y (.int k m) (.int k n) = .val (.bool (m == n)) h := by simp only [binR, apartA, binA, eqB_self, intB, optV]
theorem b_neq (k : IntKind) (m n : Int) : binR P h .neq t x y (.int k m) (.int k n) = .val (.bool (m != n)) h := by simp only [binR, apartA, binA, eqB_self, intB, optV]
theorem b_lss (k : IntKind) (m n : Int) : binR P h .lss t x y (.int k m) (.int k n) = .val (.bool (decide (m < n))) h := by simp only [binR, apartA, binA, eqB_self, intB, optV]
theorem b_leq (k : IntKind) (m n : Int) : binR P h .leq t x y (.int k m) (.int k n) = .val (.bool (decide (m ≤ n))) h := by simp only [binR, apartA, binA, eqB_self, intB, optV]
theorem b_gtr (k : IntKind) (m n : Int) : binR P h .gtr t x y (.int k m) (.int k n) = .val (.bool (decide (n < m))) h := by simp only [binR, apartA, binA, eqB_self, intB, optV, gt_iff_lt]
theorem b_geq (k : IntKind) (m n : Int) : binR P h .geq t x y (.int k m) (.int k n) = .val (.bool (decide (n ≤ m))) h := by simp only [binR, apartA, binA, eqB_self, intB, optV, ge_iff_le]
theorem b_add (k : IntKind) (m n : Int) : binR P h .add t x y (.int k m) (.int k n) = .val (.int k (wrapF k (m + n))) h := by simp only [binR, apartA, binA, eqB_self, intB, optV, forceInt_eq]
theorem b_sub (k : IntKind) (m n : Int) : binR P h .sub t x y (.int k m) (.int k n) = .val (.int k (wrapF k (m - n))) h := by simp only [binR, apartA, binA, eqB_self, intB, optV, forceInt_eq]
theorem b_mul (k : IntKind) (m n : Int) : binR P h .mul t x y (.int k m) (.int k n) = .val (.int k (wrapF k (m * n))) h := by simp only [binR, apartA, binA, eqB_self, intB, optV, forceInt_eq]
theorem b_rem (k : IntKind) (m n : Int) (hn : (n == 0) = false) : binR P h .rem t x y (.int k m) (.int k n) = .val (.int k (m.tmod n)) h := by simp only [binR, apartA, binA, eqB_self, intB, optV, forceInt_eq, hn]; rfl
theorem b_quo (k : IntKind) (m n : Int) (hn : (n == 0) = false) : binR P h .quo t x y (.int k m) (.int k n) = .val (.int k (wrapF k (m.tdiv n))) h := by simp only [binR, apartA, binA, eqB_self, intB, optV, forceInt_eq, hn]; rfl
theorem b_eqlB (hu : P.underlying t = some .bool) (a b : Bool) : binR P h .eql t x y (.bool a) (.bool b) = .val (.bool (a == b)) h := by
  simp only [binR, apartA, binA, guardEq, eqA, hu, optV]
theorem b_neqB (hu : P.underlying t = some .bool) (a b : Bool) : binR P h .neq t x y (.bool a) (.bool b) = .val (.bool (!(a == b))) h := by
  simp only [binR, apartA, binA, guardEq, eqA, hu, optV]
theorem b_eqlPn (hu : P.underlying t = some (.pointer e)) (b o : Nat) : binR P h .eql t x y (.ptr b o) .nilptr = .val (.bool false) h := by
  simp only [binR, apartA, binA, guardEq, eqA, hu, optV]
theorem b_neqPn (hu : P.underlying t = some (.pointer e)) (b o : Nat) : binR P h .neq t x y (.ptr b o) .nilptr = .val (.bool true) h := by
  simp only [binR, apartA, binA, guardEq, eqA, hu, optV, Bool.not_false]
theorem b_eqlNn (hu : P.underlying t = some (.pointer e)) : binR P h .eql t x y .nilptr .nilptr = .val (.bool true) h := by
  simp only [binR, apartA, binA, guardEq, eqA, hu, optV]
theorem b_neqNn (hu : P.underlying t = some (.pointer e)) : binR P h .neq t x y .nilptr .nilptr = .val (.bool false) h := by
  simp only [binR, apartA, binA, guardEq, eqA, hu, optV, Bool.not_true]
end
def dstL : List Oper → Nat → Option Tmp
  | [], _ => none
  | o :: _, 0 => o.dst
  | _ :: l, j + 1 => dstL l j
theorem dstL_zero (d : Option Tmp) (o : Op) (t : TypeId) (pos : String) (a : Array Edge) (g : Option (Nat × Bool)) (l : List Oper) : dstL ({ dst := d, op := o, type := t, pos := pos, after := a, guard := g } :: l) 0 = d := id rfl
theorem dstL_succ (o : Oper) (l : List Oper) (j : Nat) : dstL (o :: l) (j + 1) = dstL l j := id rfl
theorem dstOf_dstL (ops : Array Oper) (j : Nat) : dstOf ops j = dstL ops.toList j := by
  unfold dstOf
  generalize ops.toList = l
  induction l generalizing j with
  | nil => rfl
  | cons o l ih => cases j with
    | zero => rfl
    | succ j => rw [dstL_succ, ← ih j, List.getElem?_cons_succ]
def gB (x : Option AV) (w : Bool) : Option Bool :=
  match x with
  | some (.bool b) => some (b == w)
  | some (.tuple []) => some false
  | _ => none
theorem gB_und (w : Bool) : gB (some und) w = some false := id rfl
theorem gB_bool (b w : Bool) : gB (some (.bool b)) w = some (b == w) := id rfl
def gD (d : Option Tmp) (tm : T AV) (w : Bool) : Option Bool :=
  match d with
  | some d => gB (tm.get d) w
  | none => none
theorem gD_some (d : Tmp) (w : Bool) : gD (some d) tm w = gB (tm.get d) w := id rfl
theorem guardV_eq (ops : Array Oper) (j : Nat) (w : Bool) : guardV tm ops (j, w) = gD (dstL ops.toList j) tm w := by
  unfold guardV
  simp only [dstOf_dstL]
  cases dstL ops.toList j with
  | none => rfl
  | some d => rfl
theorem lenGe_cons {α : Type} (n : Nat) (x : α) (l : List α) : lenGe (n + 1) (x :: l) = lenGe n l := id rfl
theorem lenGe_nil {α : Type} (n : Nat) : lenGe (n + 1) ([] : List α) = false := id rfl
theorem lenGe_zero {α : Type} (l : List α) : lenGe 0 l = true := id rfl
theorem storeV_one {t : TypeId} (hk : P.cellsOf t = 1) {v : AV} (hv : v.cells = [v]) (b o : Nat) : storeV P h t b o v = h.put b o [v] := by
  unfold storeV; rw [hv, hk]; rfl
theorem storeV_agg {t : TypeId} {k : Nat} (hk : P.cellsOf t = k) {l : List AV} (hl : l.length = k) (b o : Nat) : storeV P h t b o (.agg l) = h.put b o l := by
  unfold storeV
  have e : (AV.agg l).cells = l := rfl
  rw [e, hk, hl, Nat.beq_refl]
theorem indexAddr_slice {t e : TypeId} {k : Nat} (hu : P.underlying t = some (.slice e)) (he : okT P e = true) (hk : P.cellsOf e = k) (b o len : Nat) (cap : Cap) (kd : IntKind) (i : Nat) :
    indexAddrA P t (.slice b o len cap) (.int kd (.ofNat i)) = if i < len then some (.ptr b (o + i * k)) else none := by
  simp only [indexAddrA, hu, he, hk, Bool.and_true]
  by_cases q : i < len
  · rw [if_pos q, show Nat.blt i len = true by rw [Nat.blt_eq]; exact q]
  · rw [if_neg q, show Nat.blt i len = false by rw [← Bool.not_eq_true, Nat.blt_eq]; exact q]
theorem len_slice {t e : TypeId} (hu : P.underlying t = some (.slice e)) (b o len : Nat) (cap : Cap) : lenA P t (.slice b o len cap) h = some len := by simp only [lenA, hu]
theorem len_nil {t e : TypeId} (hu : P.underlying t = some (.slice e)) : lenA P t .nilslice h = some 0 := by simp only [lenA, hu]
theorem len_0 {t e : TypeId} (hu : P.underlying t = some (.slice e)) : lenA P t .slice0 h = some 0 := by simp only [lenA, hu]
theorem len_str {t : TypeId} (hu : P.underlying t = some .string) (s : List Nat) : lenA P t (.str s) h = some s.length := by simp only [lenA, hu, lenL_eq]
theorem lt_nat (a b : Nat) : decide (Int.ofNat a < Int.ofNat b) = decide (a < b) := by simp
theorem le_nat (a b : Nat) : decide (Int.ofNat a ≤ Int.ofNat b) = decide (a ≤ b) := by simp
theorem gt_nat (a b : Nat) : decide (Int.ofNat a > Int.ofNat b) = decide (b < a) := by simp
theorem ge_nat (a b : Nat) : decide (Int.ofNat a ≥ Int.ofNat b) = decide (b ≤ a) := by simp
theorem eq_nat (a b : Nat) : (Int.ofNat a == Int.ofNat b) = decide (a = b) := by
  by_cases e : a = b
  · subst e; simp
  · have : ¬ Int.ofNat a = Int.ofNat b := fun q => e (Int.ofNat.inj q)
    rw [decide_eq_false e]; exact beq_eq_false_iff_ne.2 this
theorem ne_nat (a b : Nat) : (Int.ofNat a != Int.ofNat b) = !decide (a = b) := by
  show (!(Int.ofNat a == Int.ofNat b)) = _
  rw [eq_nat]
theorem u64_add {a b : Nat} (hs : a + b < 18446744073709551616) : wrapF .u64 (Int.ofNat a + Int.ofNat b) = Int.ofNat (a + b) := by
  show (((a : Nat) : Int) + ((b : Nat) : Int)) % 18446744073709551616 = ((a + b : Nat) : Int)
  omega
theorem u64_sub {a b : Nat} (hb : b ≤ a) (ha : a < 18446744073709551616) : wrapF .u64 (Int.ofNat a - Int.ofNat b) = Int.ofNat (a - b) := by
  show (((a : Nat) : Int) - ((b : Nat) : Int)) % 18446744073709551616 = ((a - b : Nat) : Int)
  omega
theorem i64_add {a b : Nat} (hs : a + b < 9223372036854775808) : wrapF .i64 (Int.ofNat a + Int.ofNat b) = Int.ofNat (a + b) := by
  have e : Int.emod (Int.ofNat a + Int.ofNat b) 18446744073709551616 = Int.ofNat (a + b) := by
    show (((a : Nat) : Int) + ((b : Nat) : Int)) % 18446744073709551616 = ((a + b : Nat) : Int)
    omega
  simp only [wrapF, e]
  rw [if_pos]
  show ((a + b : Nat) : Int) < 9223372036854775808
  omega
theorem i64_sub {a b : Nat} (hb : b ≤ a) (ha : a < 9223372036854775808) : wrapF .i64 (Int.ofNat a - Int.ofNat b) = Int.ofNat (a - b) := by
  have e : Int.emod (Int.ofNat a - Int.ofNat b) 18446744073709551616 = Int.ofNat (a - b) := by
    show (((a : Nat) : Int) - ((b : Nat) : Int)) % 18446744073709551616 = ((a - b : Nat) : Int)
    omega
  simp only [wrapF, e]
  rw [if_pos]
  show ((a - b : Nat) : Int) < 9223372036854775808
  omega
theorem tmod_nat (a b : Nat) : Int.tmod (Int.ofNat a) (Int.ofNat b) = Int.ofNat (a % b) := id rfl
theorem tdiv_nat (a b : Nat) : Int.tdiv (Int.ofNat a) (Int.ofNat b) = Int.ofNat (a / b) := id rfl
theorem nat_ne_zero {b : Nat} (hb : 0 < b) : (Int.ofNat b == 0) = false := by
  cases b with
  | zero => omega
  | succ b => rfl
theorem cells_bool (b : Bool) : AV.cells (.bool b) = [.bool b] := id rfl
theorem one_bool (b : Bool) : AV.one (.bool b) = true := id rfl
theorem cells_int (k : IntKind) (n : Int) : AV.cells (.int k n) = [.int k n] := id rfl
theorem one_int (k : IntKind) (n : Int) : AV.one (.int k n) = true := id rfl
theorem cells_str (s : List Nat) : AV.cells (.str s) = [.str s] := id rfl
theorem one_str (s : List Nat) : AV.one (.str s) = true := id rfl
theorem cells_nilptr  : AV.cells (.nilptr) = [.nilptr] := id rfl
theorem one_nilptr  : AV.one (.nilptr) = true := id rfl
theorem cells_ptr (b o : Nat) : AV.cells (.ptr b o) = [.ptr b o] := id rfl
theorem one_ptr (b o : Nat) : AV.one (.ptr b o) = true := id rfl
theorem cells_nilslice  : AV.cells (.nilslice) = [.nilslice] := id rfl
theorem one_nilslice  : AV.one (.nilslice) = true := id rfl
theorem cells_slice0  : AV.cells (.slice0) = [.slice0] := id rfl
theorem one_slice0  : AV.one (.slice0) = true := id rfl
theorem cells_slice (b o l : Nat) (c : Cap) : AV.cells (.slice b o l c) = [.slice b o l c] := id rfl
theorem one_slice (b o l : Nat) (c : Cap) : AV.one (.slice b o l c) = true := id rfl
theorem cells_nilmap  : AV.cells (.nilmap) = [.nilmap] := id rfl
theorem one_nilmap  : AV.one (.nilmap) = true := id rfl
theorem cells_map (b : Nat) : AV.cells (.map b) = [.map b] := id rfl
theorem one_map (b : Nat) : AV.one (.map b) = true := id rfl
theorem cells_func (f : FuncId) (a c : List AV) : AV.cells (.func f a c) = [.func f a c] := id rfl
theorem one_func (f : FuncId) (a c : List AV) : AV.one (.func f a c) = true := id rfl
theorem cells_yield (l : Nat) : AV.cells (.yield l) = [.yield l] := id rfl
theorem one_yield (l : Nat) : AV.one (.yield l) = true := id rfl
theorem cells_nilFunc  : AV.cells (.nilFunc) = [.nilFunc] := id rfl
theorem one_nilFunc  : AV.one (.nilFunc) = true := id rfl
theorem cells_iface (t : TypeId) (v : AV) : AV.cells (.iface t v) = [.iface t v] := id rfl
theorem one_iface (t : TypeId) (v : AV) : AV.one (.iface t v) = true := id rfl
theorem cells_nilIface  : AV.cells (.nilIface) = [.nilIface] := id rfl
theorem one_nilIface  : AV.one (.nilIface) = true := id rfl
theorem cells_agg (l : List AV) : AV.cells (.agg l) = l := id rfl
def oneV : List AV → AV
  | [v] => v
  | vs => .tuple vs
def retW (P : Program) (l : List ResultVar) (tm : T AV) (h : H) (Q : AV → H → Prop) : Prop :=
  match evalRes P tm h l with
  | some vs => Q (oneV vs) h
  | none => False
theorem retW_intro {fn : Func} {l : List ResultVar} (hl : fn.results.toList = l) {Q : AV → H → Prop} (hw : retW P l tm h Q) : retK P fn Q .ret [] tm h := by
  unfold retW at hw
  split at hw
  · rename_i vs hv
    refine ⟨h, rfl, oneV vs, ?_, hw⟩
    unfold resA; rw [hl, hv]
    cases vs with
    | nil => rfl
    | cons v vs => cases vs <;> rfl
  · exact absurd hw id
theorem evalRes_nil : evalRes P tm h [] = some [] := id rfl
def consR (x : Option AV) (l : Option (List AV)) : Option (List AV) :=
  match l with
  | some vs => some (x.getD und :: vs)
  | none => none
theorem consR_some (v : AV) (l : List AV) : consR (some v) (some l) = some (v :: l) := id rfl
theorem evalRes_tmp (t : Tmp) (l : List ResultVar) : evalRes P tm h (.tmp t :: l) = consR (tm.get t) (evalRes P tm h l) := id rfl
theorem oneV_one (v : AV) : oneV [v] = v := id rfl
theorem oneV_two (v w : AV) (l : List AV) : oneV (v :: w :: l) = .tuple (v :: w :: l) := id rfl
def qW (x : Option (List AV)) (h : H) (Q : AV → H → Prop) : Prop :=
  match x with
  | some vs => Q (oneV vs) h
  | none => False
theorem qW_some (vs : List AV) (Q : AV → H → Prop) : qW (some vs) h Q = Q (oneV vs) h := id rfl
theorem retW_eq (l : List ResultVar) (Q : AV → H → Prop) : retW P l tm h Q = qW (evalRes P tm h l) h Q := id rfl
theorem n_eq_add (n k : Nat) : (n = n + k) = (k = 0) := by simp
theorem add_eq_n (n k : Nat) : (n + k = n) = (k = 0) := by simp
theorem add_eq_add (n a b : Nat) : (n + a = n + b) = (a = b) := by simp
theorem bool_eq_self (b : Bool) : (b == b) = true := by cases b <;> rfl
def Only (h h' : H) (S : List Nat) : Prop := h.nx ≤ h'.nx ∧ ∀ b, b < h.nx → b ∉ S → h'.t.get b = h.t.get b
theorem cellAt_of_get {h h' : H} {b : Nat} (e : h'.t.get b = h.t.get b) (o : Nat) : cellAt h' b o = cellAt h b o := by unfold cellAt; rw [e]
theorem wrAt_of_get {h h' : H} {b : Nat} (e : h'.t.get b = h.t.get b) : wrAt h' b = wrAt h b := by unfold wrAt; rw [e]
theorem Only.refl (h : H) (S : List Nat) : Only h h S := ⟨Nat.le_refl _, fun _ _ _ => rfl⟩
theorem Only.cell {h h' : H} {S : List Nat} (ho : Only h h' S) {b : Nat} (hb : b < h.nx) (hs : b ∉ S) (o : Nat) : cellAt h' b o = cellAt h b o := cellAt_of_get (ho.2 b hb hs) o
theorem Only.wr {h h' : H} {S : List Nat} (ho : Only h h' S) {b : Nat} (hb : b < h.nx) (hs : b ∉ S) : wrAt h' b = wrAt h b := wrAt_of_get (ho.2 b hb hs)
theorem Only.sts {h h' : H} {S : List Nat} (ho : Only h h' S) {b o : Nat} {l : List AV} (hb : b ∈ S ∨ h.nx ≤ b) : Only h (h'.sts b o l) S :=
  ⟨by rw [nx_sts]; exact ho.1, fun c hc hs => by
    rw [get_sts _ _ _ _ (fun e => by subst e; rcases hb with hb | hb <;> first | exact hs hb | omega)]
    exact ho.2 c hc hs⟩
theorem Only.new {h h' : H} {S : List Nat} (ho : Only h h' S) (t : TypeId) (l : List AV) : Only h (h'.newCells t l) S :=
  ⟨by rw [nx_new]; have := ho.1; omega, fun c hc hs => by rw [get_new _ _ _ (by have := ho.1; omega)]; exact ho.2 c hc hs⟩
theorem Only.trans {h h1 h2 : H} {S S1 S2 : List Nat} (a : Only h h1 S1) (b : Only h1 h2 S2) (s1 : ∀ x, x ∈ S1 → x ∈ S) (s2 : ∀ x, x ∈ S2 → x ∈ S ∨ h.nx ≤ x) : Only h h2 S :=
  ⟨Nat.le_trans a.1 b.1, fun c hc hs => by
    rw [b.2 c (Nat.lt_of_lt_of_le hc a.1) (fun e => by rcases s2 c e with q | q <;> first | exact hs q | omega)]
    exact a.2 c hc (fun e => hs (s1 c e))⟩
end
end
end Go.AX

namespace Go.AX
noncomputable section
open Go.RowKit
section
variable {P : Program} {tm tm' : T AV} {h h' : H}
theorem evalA_same {x : Operand} (he : ∀ t, x = .tmp t → tm.get t = tm'.get t) : evalA tm x = evalA tm' x := by
  cases x with
  | tmp t => simp only [evalA, he t rfl]
  | _ => rfl
theorem evalG_same {x : Operand} (he : ∀ t, x = .tmp t → tm.get t = tm'.get t) : evalG tm h x = evalG tm' h x := by
  cases x with
  | tmp t => exact evalA_same he
  | _ => rfl
theorem evalsA_same : ∀ {l : List Operand}, (∀ t, Operand.tmp t ∈ l → tm.get t = tm'.get t) → evalsA tm l = evalsA tm' l
  | [], _ => rfl
  | x :: l, he => by
    simp only [evalsA, evalA_same (tm := tm) (tm' := tm') (x := x) (fun t e => he t (e ▸ List.mem_cons_self)), evalsA_same (l := l) (fun t ht => he t (List.mem_cons_of_mem _ ht))]
theorem evalP_same : ∀ {l : List (Nat × Operand)}, (∀ t, Operand.tmp t ∈ l.map (·.2) → tm.get t = tm'.get t) → evalP tm l = evalP tm' l
  | [], _ => rfl
  | (i, x) :: l, he => by
    simp only [evalP, evalA_same (tm := tm) (tm' := tm') (x := x) (fun t e => he t (e ▸ List.mem_cons_self)), evalP_same (l := l) (fun t ht => he t (List.mem_cons_of_mem _ ht))]
theorem evalO_same {x : Option Operand} (he : ∀ t, x = some (.tmp t) → tm.get t = tm'.get t) : evalO tm x = evalO tm' x := by
  cases x with
  | none => rfl
  | some x => simp only [evalO, evalA_same (tm := tm) (tm' := tm') (x := x) (fun t e => he t (e ▸ rfl))]
theorem execA_same (o : Op) (he : ∀ t, Operand.tmp t ∈ o.operands.toList → tm.get t = tm'.get t) : execA P tm h o = execA P tm' h o := by
  have e1 : ∀ x, x ∈ o.operands.toList → evalA tm x = evalA tm' x := fun x hx => evalA_same fun t ht => he t (ht ▸ hx)
  have e2 : ∀ x, x ∈ o.operands.toList → evalG tm h x = evalG tm' h x := fun x hx => evalG_same fun t ht => he t (ht ▸ hx)
  cases o with
  | build t ps =>
    have := evalP_same (tm := tm) (tm' := tm') (l := ps.toList) (fun t ht => he t (by simpa [Op.operands] using ht))
    simp only [execA, this]
  | buildSlice t n ps =>
    have := evalP_same (tm := tm) (tm' := tm') (l := ps.toList) (fun t ht => he t (by simpa [Op.operands] using ht))
    simp only [execA, this]
  | makeFunc f first cap =>
    cases f with
    | func f =>
      have a := evalsA_same (tm := tm) (tm' := tm') (l := first.toList) (fun t ht => he t (by simp only [Op.operands, Array.toList_append, List.mem_append]; exact .inl ht))
      have b := evalsA_same (tm := tm) (tm' := tm') (l := cap.toList) (fun t ht => he t (by simp only [Op.operands, Array.toList_append, List.mem_append]; exact .inr ht))
      simp only [execA, a, b]
    | _ => rfl
  | makeMap t r =>
    have a := evalO_same (tm := tm) (tm' := tm') (x := r) (fun t e => he t (by subst e; simp [Op.operands]))
    simp only [execA, a]
  | slice t x lo hi mx =>
    have a := evalO_same (tm := tm) (tm' := tm') (x := lo) (fun t e => he t (by subst e; simp [Op.operands]))
    have b := evalO_same (tm := tm) (tm' := tm') (x := hi) (fun t e => he t (by subst e; simp [Op.operands]))
    have c := evalO_same (tm := tm) (tm' := tm') (x := mx) (fun t e => he t (by subst e; simp [Op.operands]))
    simp only [execA, a, b, c, e1 x (by simp [Op.operands])]
  | call c =>
    obtain ⟨cl, args, ats⟩ := c
    have a := evalsA_same (tm := tm) (tm' := tm') (l := args.toList) (fun t ht => he t (by
      simp only [Op.operands, Call.operands, Array.toList_append, List.mem_append]; exact .inr ht))
    cases cl with
    | value f => simp only [execA, a, e1 f (by simp [Op.operands, Call.operands])]
    | builtin b => simp only [execA, a]
    | invoke r m => simp only [execA, a]
  | defer c =>
    obtain ⟨cl, args, ats⟩ := c
    have a := evalsA_same (tm := tm) (tm' := tm') (l := args.toList) (fun t ht => he t (by
      simp only [Op.operands, Call.operands, Array.toList_append, List.mem_append]; exact .inr ht))
    cases cl with
    | value f => simp only [execA, a, e1 f (by simp [Op.operands, Call.operands])]
    | _ => rfl
  | convert s d x => simp only [execA, e1 x (by simp [Op.operands])]
  | move x => simp only [execA, e1 x (by simp [Op.operands])]
  | assign x => simp only [execA, e1 x (by simp [Op.operands])]
  | pick c a b => simp only [execA, e1 c (by simp [Op.operands]), e1 a (by simp [Op.operands]), e1 b (by simp [Op.operands])]
  | box t x => simp only [execA, e1 x (by simp [Op.operands])]
  | load t x => simp only [execA, e2 x (by simp [Op.operands])]
  | store t x y => simp only [execA, e1 x (by simp [Op.operands]), e1 y (by simp [Op.operands])]
  | nilCheck x => simp only [execA, e1 x (by simp [Op.operands])]
  | binOp op t x y u => simp only [execA, e1 x (by simp [Op.operands]), e1 y (by simp [Op.operands])]
  | unOp op t x => simp only [execA, e1 x (by simp [Op.operands])]
  | makeInterface t x => simp only [execA, e1 x (by simp [Op.operands])]
  | makeSlice t x y => simp only [execA, e1 x (by simp [Op.operands]), e1 y (by simp [Op.operands])]
  | fieldAddr t x i => simp only [execA, e2 x (by simp [Op.operands])]
  | field t x i => simp only [execA, e1 x (by simp [Op.operands])]
  | indexAddr t x i => simp only [execA, e2 x (by simp [Op.operands]), e1 i (by simp [Op.operands])]
  | index t x i => simp only [execA, e1 x (by simp [Op.operands]), e1 i (by simp [Op.operands])]
  | lookup t x i ok => simp only [execA, e1 x (by simp [Op.operands]), e1 i (by simp [Op.operands])]
  | mapUpdate t m k x => simp only [execA, e1 x (by simp [Op.operands]), e1 m (by simp [Op.operands]), e1 k (by simp [Op.operands])]
  | insert t m k x => simp only [execA, e1 x (by simp [Op.operands]), e1 m (by simp [Op.operands]), e1 k (by simp [Op.operands])]
  | mapEntry t m k => simp only [execA, e1 m (by simp [Op.operands]), e1 k (by simp [Op.operands])]
  | entryStore t m s x => simp only [execA, e1 x (by simp [Op.operands]), e1 m (by simp [Op.operands]), e1 s (by simp [Op.operands])]
  | range t x => simp only [execA, e1 x (by simp [Op.operands])]
  | next x s => simp only [execA, e1 x (by simp [Op.operands])]
  | entry x => simp only [execA, e1 x (by simp [Op.operands])]
  | extract x i => simp only [execA, e1 x (by simp [Op.operands])]
  | panic x => simp only [execA, e1 x (by simp [Op.operands])]
  | _ => rfl
theorem execA_mini {ops : Array Oper} {o : Oper} : execA P (mini tm (slotsOf ops o)) h o.op = execA P tm h o.op :=
  execA_same _ fun t ht => by rw [mini_get, if_pos (slotsOf_ops (tmpsOf_mem ht))]
theorem wantedD_mini {ops : Array Oper} {o : Oper} : wantedD (mini tm (slotsOf ops o)) ops o = wantedD tm ops o := by
  unfold wantedD
  split
  · rfl
  · rename_i j want hg
    split
    · rename_i d hd
      have : d ∈ slotsOf ops o := by unfold slotsOf; rw [hg]; simp only [hd]; exact List.mem_cons_self
      rw [mini_get, if_pos this]
    · rfl
theorem execD_eq {ops : Array Oper} {o : Oper} : execD P tm h ops o = match wantedD tm ops o with | true => execA P tm h o.op | false => .val und h := by
  unfold execD; rw [wantedD_mini, execA_mini]; cases wantedD tm ops o <;> rfl
theorem isRead_val {op : Op} (hr : isRead op = true) : (∃ v, execA P tm h op = .val v h) ∨ execA P tm h op = .fail := by
  have hkey : (∃ v h', execA P tm h op = .val v h') ∨ execA P tm h op = .fail := by
    have ho : ∀ x : Option AV, (∃ v h', optV h x = .val v h') ∨ optV h x = .fail := fun x => by
      cases x with
      | none => exact .inr rfl
      | some v => exact .inl ⟨v, h, rfl⟩
    have hap : ∀ op t, (∃ v h', apartV P op t h = .val v h') ∨ apartV P op t h = .fail := fun op t => by
      unfold apartV
      repeat' (first | exact .inr rfl | exact .inl ⟨_, _, rfl⟩ | split)
    cases op with
    | call c =>
      obtain ⟨callee, args, ts⟩ := c
      cases callee with
      | builtin b =>
        have hb : b = .len ∨ b = .cap ∨ b = .min ∨ b = .max := by cases b <;> simp [isRead] at hr <;> simp
        simp only [execA]
        split
        · exact .inr rfl
        · unfold builtinA
          rcases hb with rfl | rfl | rfl | rfl <;> split <;> first
            | contradiction
            | exact .inr rfl
            | exact .inl ⟨_, _, rfl⟩
            | (split <;> first | exact .inr rfl | exact .inl ⟨_, _, rfl⟩)
      | _ => simp [isRead] at hr
    | makeFunc fn a b =>
      cases fn with
      | func f =>
        simp only [execA]
        split
        · exact .inl ⟨_, _, rfl⟩
        · exact .inr rfl
      | _ => exact .inr rfl
    | _ =>
      first
      | (simp [isRead] at hr; done)
      | (simp only [execA]
         first
         | exact ho _
         | (repeat' split
            all_goals first | exact ho _ | exact hap _ _ | exact .inr rfl | exact .inl ⟨_, _, rfl⟩))
  rcases hkey with ⟨v, h', e⟩ | e
  · have := isRead_h hr e; subst this; exact .inl ⟨v, e⟩
  · exact .inr e
mutual
theorem AV.same_refl : ∀ a : AV, AV.same a a = true
  | .bool b => by simp [AV.same]
  | .int k n => by simp [AV.same, eqB_self]
  | .str s => by simp only [AV.same]; exact (listEqB_iff s s).2 rfl
  | .nilptr => rfl
  | .ptr b o => by simp [AV.same]
  | .nilslice => rfl
  | .slice0 => rfl
  | .slice b o l (.exact c) => by simp [AV.same]
  | .slice b o l (.opn c) => by simp [AV.same]
  | .nilmap => rfl
  | .map b => by simp [AV.same]
  | .func f a c => by simp [AV.same, AV.sames_refl a, AV.sames_refl c]
  | .yield l => by simp [AV.same]
  | .nilFunc => rfl
  | .iface t v => by simp [AV.same, AV.same_refl v]
  | .nilIface => rfl
  | .agg cs => by simp [AV.same, AV.sames_refl cs]
  | .tuple cs => by simp [AV.same, AV.sames_refl cs]
theorem AV.sames_refl : ∀ l : List AV, AV.sames l l = true
  | [] => rfl
  | a :: l => by simp [AV.sames, AV.same_refl a, AV.sames_refl l]
end
def scalarConv (P : Program) : Op → Bool
  | .convert _ d _ => match P.underlying d with
    | some (.int _) => true
    | some .string => true
    | _ => false
  | _ => false
theorem scalarConv_val {o : Op} (hs : scalarConv P o = true) {v : AV} (e : execA P tm h o = .val v h') : ((∃ k n, v = .int k n) ∨ ∃ s, v = .str s) ∧ h' = h ∧ isConv o = true ∧ isRead o = false := by
  cases o with
  | convert s d x =>
    have hd : (∃ k, P.underlying d = some (.int k)) ∨ P.underlying d = some .string := by
      simp only [scalarConv] at hs
      split at hs
      · rename_i k hk; exact .inl ⟨k, hk⟩
      · rename_i hk; exact .inr hk
      · cases hs
    have hv : (∃ k n, v = .int k n) ∨ ∃ s, v = .str s := by
      simp only [execA] at e
      split at e
      · rename_i y hy
        have e' : convertA P s d y h = .val v h' := by
          rcases hd with ⟨k, hd⟩ | hd <;> rw [hd] at e <;> (split at e <;> first | exact e | (exfalso; rename_i q; cases q; done) | (exfalso; rename_i q _; cases q; done))
        clear e
        unfold convertA at e'
        rcases hd with ⟨k, hd⟩ | hd <;> rw [hd] at e'
        · split at e' <;> first
            | (simp only [forceInt_eq] at e'; cases e'; exact .inl ⟨_, _, rfl⟩)
            | (exfalso; simp_all; done)
        · split at e' <;> first
            | (cases e'; exact .inr ⟨_, rfl⟩)
            | (exfalso; simp_all; done)
            | (repeat' (first | (cases e'; exact .inr ⟨_, rfl⟩) | (cases e'; done) | split at e'))
      · cases e
    exact ⟨hv, conv_h e (by rcases hv with q | q; exact .inl q; exact .inr (.inl q)), rfl, rfl⟩
  | _ => simp [scalarConv] at hs
theorem scalarConv_res {o : Op} (hs : scalarConv P o = true) : (∃ v h', execA P tm h o = .val v h') ∨ execA P tm h o = .fail := by
  cases o with
  | convert s d x =>
    simp only [execA]
    split
    · split
      · unfold toUnsafeA
        repeat' (first | exact .inr rfl | exact .inl ⟨_, _, rfl⟩ | split)
      · unfold fromUnsafeA
        repeat' (first | exact .inr rfl | exact .inl ⟨_, _, rfl⟩ | split)
      · unfold convertA
        repeat' (first | exact .inr rfl | exact .inl ⟨_, _, rfl⟩ | split)
    · exact .inr rfl
  | _ => simp [scalarConv] at hs
def heapFree (P : Program) : Op → Bool
  | .move _ => true
  | .pick _ _ _ => true
  | .nilCheck _ => true
  | .extract _ _ => true
  | .makeFunc _ _ _ => true
  | .field _ _ _ => true
  | .index _ _ _ => true
  | .unOp _ _ _ => true
  | .slice _ _ _ _ _ => true
  | .makeInterface _ _ => true
  | .build _ _ => true
  | _ => false
theorem heapFree_val {o : Op} (hf : heapFree P o = true) {v : AV} (e : execA P tm h o = .val v h) (h' : H) : execA P tm h' o = .val v h' := by
  have ho : ∀ {x : Option AV}, optV h x = .val v h → optV h' x = .val v h' := fun {x} e => by
    cases x with
    | none => cases e
    | some y => cases e; rfl
  cases o with
  | makeFunc fn a b =>
    cases fn with
    | func f =>
      simp only [execA] at e ⊢
      cases ha : evalsA tm a.toList with
      | none => rw [ha] at e; cases e
      | some u => cases hb : evalsA tm b.toList with
        | none => rw [ha, hb] at e; cases e
        | some w => rw [ha, hb] at e; cases e; rfl
    | _ => cases e
  | move x => simp only [execA] at e ⊢; exact ho e
  | pick c a b =>
    simp only [execA] at e ⊢
    cases hc : evalA tm c with
    | none => rw [hc] at e; cases e
    | some u =>
      rw [hc] at e
      cases u with
      | bool t => cases t <;> exact ho e
      | _ => cases e
  | nilCheck x =>
    simp only [execA] at e ⊢
    cases hc : evalA tm x with
    | none => rw [hc] at e; cases e
    | some u => rw [hc] at e; cases u <;> cases e <;> rfl
  | extract x i =>
    simp only [execA] at e ⊢
    cases hc : evalA tm x with
    | none => rw [hc] at e; cases e
    | some u =>
      rw [hc] at e
      cases u with
      | tuple vs => exact ho e
      | _ => cases e
  | field t x i =>
    simp only [execA] at e ⊢
    cases hc : evalA tm x with
    | none => rw [hc] at e; cases e
    | some u => rw [hc] at e; exact ho e
  | unOp op t x =>
    simp only [execA] at e ⊢
    cases hc : evalA tm x with
    | none => rw [hc] at e; cases e
    | some u => rw [hc] at e; exact ho e
  | index t x i =>
    simp only [execA] at e ⊢
    cases hc : evalA tm x with
    | none => rw [hc] at e; cases hi : evalA tm i <;> rw [hi] at e <;> cases e
    | some u => cases hi : evalA tm i with
      | none => rw [hc, hi] at e; cases e
      | some j => rw [hc, hi] at e; exact ho e
  | slice t x lo hi mx =>
    simp only [execA] at e ⊢
    split at e
    · exact ho e
    · cases e
  | makeInterface t x =>
    simp only [execA] at e ⊢
    split at e
    · cases e
    · cases e; rfl
    · cases e
  | build t ps =>
    simp only [execA] at e ⊢
    cases hc : evalP tm ps.toList with
    | none => rw [hc] at e; cases e
    | some u => rw [hc] at e; exact ho e
  | _ => simp [heapFree] at hf
def isAssign : Op → Bool
  | .assign _ => true
  | _ => false
def kindOf (P : Program) (o : Oper) : Nat :=
  match isRead o.op || scalarConv P o.op with
  | true => 0
  | false => match isAlloc o with
    | true => 1
    | false => match isAssign o.op with
      | true => 2
      | false => match isConv o.op with
        | true => 4
        | false => 3
def pairsOf : List (Nat × Oper × Nat) → List (Nat × Oper)
  | [] => []
  | (j, o, _) :: l => (j, o) :: pairsOf l
def dropP (B : List Nat) : List (Nat × Oper) → List (Nat × Oper)
  | [] => []
  | (j, o) :: l => match memB j B with
    | true => dropP (edgesOf o.after.toList ++ B) l
    | false => (j, o) :: dropP B l
theorem pairsOf_dropF : ∀ (l : List (Nat × Oper × Nat)) (B : List Nat), pairsOf (dropF B l) = dropP B (pairsOf l)
  | [], _ => rfl
  | (j, o, b) :: l, B => by
    simp only [dropF, pairsOf, dropP]
    cases memB j B with
    | true => exact pairsOf_dropF l _
    | false => simp only [pairsOf, pairsOf_dropF l B]
def notDst (d : Option Tmp) (t : Tmp) : Bool :=
  match d with
  | none => true
  | some d => !Nat.beq d t
def clearOf (ops : Array Oper) (o : Oper) : List (Nat × Oper) → Bool
  | [] => true
  | p :: l => (slotsOf ops o).all (notDst p.2.dst) && (match o.dst with | none => true | some e => notDst p.2.dst e) && clearOf ops o l
def ownOk (nt : Nat) (ops : Array Oper) (o : Oper) : Bool :=
  match o.dst with
  | none => true
  | some d => Nat.blt d nt && (slotsOf ops o).all (fun t => !Nat.beq d t)
def freeAll (P : Program) : List (Nat × Oper) → Bool
  | [] => true
  | (_, o) :: l => heapFree P o.op && freeAll P l
def isNoneG (g : Option (Nat × Bool)) : Bool :=
  match g with
  | none => true
  | some _ => false
def drawOk (P : Program) (nt : Nat) (ops : Array Oper) : List (Nat × Oper) → List (Nat × Oper) → Bool
  | [], _ => true
  | (i, o) :: rem, early =>
    clearOf ops o rem && match kindOf P o with
      | 0 => ownOk nt ops o && drawOk P nt ops rem ((i, o) :: early)
      | 1 => isNoneG o.guard && (ownOk nt ops o && (freeAll P early && false && drawOk P nt ops rem ((i, o) :: early)))
      | 2 => isNoneG o.guard && (dstOk nt o.dst && (chainB i [i] rem && drawOk P nt ops rem (dropP (edgesOf o.after.toList) early)))
      | 3 => dstOk nt o.dst && (chainB i [i] rem && (freeAll P (dropP (edgesOf o.after.toList) early) && drawOk P nt ops rem (dropP (edgesOf o.after.toList) early)))
      | _ => false
def EI (P : Program) (nt : Nat) (tm : T AV) (h : H) (ops : Array Oper) (rem : List (Nat × Oper)) (early : List (Nat × Oper × Nat)) : Prop :=
  ∀ p, p ∈ early → kindOf P p.2.1 = 0 ∧ clearOf ops p.2.1 rem = true ∧ ∃ v, readVal P tm h ops p.2.1 = some v ∧ slotIs nt tm p.2.1.dst v = true
theorem clearOf_mem {ops : Array Oper} {o : Oper} : ∀ {l : List (Nat × Oper)}, clearOf ops o l = true → ∀ p, p ∈ l → (∀ t, t ∈ slotsOf ops o → p.2.dst ≠ some t) ∧ ∀ e, o.dst = some e → p.2.dst ≠ some e
  | [], _, p, hp => absurd hp List.not_mem_nil
  | q :: l, h, p, hp => by
    simp only [clearOf, Bool.and_eq_true, List.all_eq_true] at h
    have hn : ∀ {d : Option Tmp} {t : Tmp}, notDst d t = true → d ≠ some t := fun {d t} hd e => by
      subst e; simp [notDst] at hd
    rcases List.mem_cons.1 hp with rfl | hp
    · refine ⟨fun t ht => hn (h.1.1 t ht), fun e he => ?_⟩
      have := h.1.2
      rw [he] at this
      exact hn this
    · exact clearOf_mem h.2 p hp
theorem putT_get (nt : Nat) (d : Option Tmp) (v : AV) {t : Tmp} (ht : d ≠ some t) : (putT nt tm d v).get t = tm.get t := by
  cases d with
  | none => rfl
  | some d =>
    rw [putT_some]
    split
    · rw [T.get_set, if_neg (fun e => ht (by rw [e]))]
    · rfl
theorem readVal_same {ops : Array Oper} {o : Oper} (he : ∀ t, t ∈ slotsOf ops o → tm'.get t = tm.get t) : readVal P tm' h ops o = readVal P tm h ops o := by
  have : mini tm' (slotsOf ops o) = mini tm (slotsOf ops o) := by
    have : ∀ l : List Tmp, (∀ t, t ∈ l → tm'.get t = tm.get t) → mini tm' l = mini tm l := by
      intro l
      induction l with
      | nil => intro _; rfl
      | cons t l ih => intro hl; simp only [mini, ih (fun t ht => hl t (List.mem_cons_of_mem _ ht)), hl t List.mem_cons_self]
    exact this _ he
  unfold readVal execD
  rw [this]
theorem slotIs_same {nt : Nat} {d : Option Tmp} {v : AV} (he : ∀ t, d = some t → tm'.get t = tm.get t) : slotIs nt tm' d v = slotIs nt tm d v := by
  cases d with
  | none => rfl
  | some d => simp only [slotIs, he d rfl]
theorem EI.put {nt : Nat} {ops : Array Oper} {i : Nat} {o : Oper} {rem : List (Nat × Oper)} {early : List (Nat × Oper × Nat)} (he : EI P nt tm h ops ((i, o) :: rem) early) (v : AV) : EI P nt (putT nt tm o.dst v) h ops rem early := by
  intro p hp
  obtain ⟨k0, kc, w, hw, hs⟩ := he p hp
  have hc := clearOf_mem kc (i, o) List.mem_cons_self
  have kc' : clearOf ops p.2.1 rem = true := by simp only [clearOf, Bool.and_eq_true] at kc; exact kc.2
  refine ⟨k0, kc', w, ?_, ?_⟩
  · rw [readVal_same (fun t ht => putT_get nt _ v (hc.1 t ht))]; exact hw
  · rw [slotIs_same (fun t ht => putT_get nt _ v (hc.2 t ht))]; exact hs
theorem EI.sub {nt : Nat} {ops : Array Oper} {rem : List (Nat × Oper)} {early : List (Nat × Oper × Nat)} {B : List Nat} (he : EI P nt tm h ops rem early) : EI P nt tm h ops rem (dropF B early) := fun p hp => he p (dropF_sub hp)
theorem kind_alloc {o : Oper} (hk : kindOf P o = 0) : isAlloc o = false := by
  unfold kindOf at hk
  split at hk
  · rename_i hr
    cases ha : isAlloc o with
    | false => rfl
    | true =>
      rw [Bool.or_eq_true] at hr
      unfold isAlloc at ha
      cases ho : o.op <;> rw [ho] at ha hr <;> simp [isRead, scalarConv] at ha hr
  · split at hk
    · cases hk
    · split at hk
      · cases hk
      · split at hk <;> cases hk
theorem kind_fl {o : Oper} (hk : kindOf P o = 0) : isFl o = false := by
  cases hf : isFl o with
  | false => rfl
  | true =>
    rcases isFl_op hf with ⟨t, n, ps, hop⟩ | ⟨t, n, ps, hop⟩ <;> unfold kindOf at hk <;> simp [hop, isRead, scalarConv, isConv, isAssign] at hk <;> split at hk <;> cases hk
theorem EI.early {nt : Nat} {ops : Array Oper} {rem : List (Nat × Oper)} : ∀ {early : List (Nat × Oper × Nat)}, EI P nt tm h ops rem early → earlyOk P nt tm h ops early = true
  | [], _ => rfl
  | (j, o, b) :: l, he => by
    obtain ⟨k0, _, v, hv, hs⟩ := he (j, o, b) List.mem_cons_self
    have : readOk P nt tm h ops o b = true := by
      unfold readOk
      rw [kind_alloc k0, kind_fl k0]
      simp only at hv hs ⊢
      rw [hv]; exact hs
    simp only [earlyOk, this]
    exact EI.early (fun p hp => he p (List.mem_cons_of_mem _ hp))
theorem kind0 {o : Oper} (hk : kindOf P o = 0) : isRead o.op = true ∨ scalarConv P o.op = true := by
  unfold kindOf at hk
  split at hk
  · rename_i hr; exact Bool.or_eq_true _ _ ▸ hr
  · split at hk
    · cases hk
    · split at hk
      · cases hk
      · split at hk <;> cases hk
theorem read_now {ops : Array Oper} {o : Oper} (hk : kindOf P o = 0) {K : AV → H → Prop} (hw : wantW tm ops o.guard (exW P (execA P tm h o.op) K) (K und h)) : ∃ v, readVal P tm h ops o = some v ∧ K v h := by
  have hyes : wantedD tm ops o = true → exW P (execA P tm h o.op) K → ∃ v, readVal P tm h ops o = some v ∧ K v h := by
    intro hd hx
    rcases kind0 hk with hr | hs
    · rcases isRead_val (P := P) (tm := tm) (h := h) hr with ⟨v, e⟩ | e
      · rw [e] at hx
        refine ⟨v, ?_, hx⟩
        unfold readVal
        rw [hr, execD_eq, hd]; simp only [e]
      · rw [e] at hx; exact absurd hx id
    · rcases scalarConv_res (P := P) (tm := tm) (h := h) hs with ⟨v, h', e⟩ | e
      · obtain ⟨hv, hh, hc, hr⟩ := scalarConv_val hs e
        subst hh
        rw [e] at hx
        refine ⟨v, ?_, hx⟩
        unfold readVal
        rw [hr, hc, execD_eq, hd]
        simp only [e]
        rcases hv with ⟨k, n, rfl⟩ | ⟨s, rfl⟩ <;> rfl
      · rw [e] at hx; exact absurd hx id
  have hno : wantedD tm ops o = false → K und h → ∃ v, readVal P tm h ops o = some v ∧ K v h := by
    intro hd hx
    refine ⟨und, ?_, hx⟩
    unfold readVal
    rw [execD_eq, hd]
    rcases kind0 hk with hr | hs
    · rw [hr]
    · have : isRead o.op = false ∧ isConv o.op = true := by
        cases ho : o.op <;> rw [ho] at hs <;> simp [scalarConv] at hs <;> exact ⟨rfl, rfl⟩
      rw [this.1, this.2]; rfl
  unfold wantW at hw
  split at hw
  · rename_i hg; exact hyes (by unfold wantedD; rw [hg]) hw
  · rename_i j want hg
    split at hw
    · rename_i d hd
      split at hw
      · rename_i b hb
        have e : wantedD tm ops o = (b == want) := by unfold wantedD; simp only [hg, hd, hb]
        cases hbw : (b == want) with
        | true => exact hyes (e.trans hbw) (hw.1 hbw)
        | false => exact hno (e.trans hbw) (hw.2 hbw)
      · rename_i hb
        exact hno (by unfold wantedD; simp only [hg, hd, hb]) hw
      · exact absurd hw id
    · exact absurd hw id
theorem exec_now {ops : Array Oper} {o : Oper} {K : AV → H → Prop} (hw : wantW tm ops o.guard (exW P (execA P tm h o.op) K) (K und h)) : exW P (execD P tm h ops o) K := by
  rw [execD_eq]
  unfold wantW at hw
  split at hw
  · rename_i hg
    have : wantedD tm ops o = true := by unfold wantedD; rw [hg]
    rw [this]; exact hw
  · rename_i j want hg
    split at hw
    · rename_i d hd
      split at hw
      · rename_i b hb
        have e : wantedD tm ops o = (b == want) := by unfold wantedD; simp only [hg, hd, hb]
        rw [e]
        cases hbw : (b == want) with
        | true => exact hw.1 hbw
        | false => exact hw.2 hbw
      · rename_i hb
        have e : wantedD tm ops o = false := by unfold wantedD; simp only [hg, hd, hb]
        rw [e]; exact hw
      · exact absurd hw id
    · exact absurd hw id
theorem freeAll_mem : ∀ {l : List (Nat × Oper × Nat)}, freeAll P (pairsOf l) = true → ∀ p, p ∈ l → heapFree P p.2.1.op = true
  | [], _, p, hp => absurd hp List.not_mem_nil
  | (j, o, b) :: l, h, p, hp => by
    simp only [pairsOf, freeAll, Bool.and_eq_true] at h
    rcases List.mem_cons.1 hp with rfl | hp
    · exact h.1
    · exact freeAll_mem h.2 p hp
theorem readVal_free {ops : Array Oper} {o : Oper} (hf : heapFree P o.op = true) {v : AV} (hv : readVal P tm h ops o = some v) (h' : H) : readVal P tm h' ops o = some v := by
  unfold readVal at hv ⊢
  rw [execD_eq] at hv ⊢
  have hr : isRead o.op = true := by
    cases ho : o.op <;> rw [ho] at hf <;> simp [heapFree] at hf <;> rfl
  rw [hr] at hv ⊢
  simp only at hv ⊢
  cases hd : wantedD tm ops o with
  | false => rw [hd] at hv; exact hv
  | true =>
    rw [hd] at hv
    simp only at hv ⊢
    rcases isRead_val (P := P) (tm := tm) (h := h) hr with ⟨u, e⟩ | e
    · rw [e] at hv
      rw [heapFree_val hf e h']; exact hv
    · rw [e] at hv; cases hv
theorem EI.free {nt : Nat} {ops : Array Oper} {rem : List (Nat × Oper)} {early : List (Nat × Oper × Nat)} (he : EI P nt tm h ops rem early) (hf : freeAll P (pairsOf early) = true) (h' : H) : EI P nt tm h' ops rem early := fun p hp => by
  obtain ⟨k0, kc, v, hv, hs⟩ := he p hp
  exact ⟨k0, kc, v, readVal_free (freeAll_mem hf p hp) hv h', hs⟩
theorem kind3 {o : Oper} (hk : kindOf P o = 3 ∨ kindOf P o = 2) : isAlloc o = false ∧ isRead o.op = false ∧ isConv o.op = false := by
  unfold kindOf at hk
  split at hk
  · rcases hk with hk | hk <;> cases hk
  · rename_i hr
    rw [Bool.or_eq_false_iff] at hr
    split at hk
    · rcases hk with hk | hk <;> cases hk
    · rename_i ha
      split at hk
      · rename_i hs
        refine ⟨ha, hr.1, ?_⟩
        cases ho : o.op <;> rw [ho] at hs <;> simp [isAssign] at hs <;> rfl
      · split at hk
        · rcases hk with hk | hk <;> cases hk
        · exact ⟨ha, hr.1, by assumption⟩
theorem drawW_of_opsW {nt : Nat} {ops : Array Oper} {Q : T AV → H → Prop} : ∀ {rem : List (Nat × Oper)} {early : List (Nat × Oper × Nat)} {tm : T AV} {h : H}, drawOk P nt ops rem (pairsOf early) = true → EI P nt tm h ops rem early →
    opsW P nt ops (rem.map (·.2)) tm h Q → drawW P nt ops rem early tm h Q
  | [], early, tm, h, _, he, hw => ⟨he.early, hw⟩
  | (i, o) :: rem, early, tm, h, hd, he, hw => by
    simp only [List.map_cons] at hw
    rw [opsW_cons] at hw
    simp only [drawOk, Bool.and_eq_true] at hd
    obtain ⟨hc, hd⟩ := hd
    split at hd
    · rename_i hk
      simp only [Bool.and_eq_true] at hd
      obtain ⟨v, hv, hK⟩ := read_now hk hw
      simp only [drawW, kind_alloc hk, hv]
      refine drawW_of_opsW (early := (i, o, 0) :: early) hd.2 (fun p hp => ?_) hK
      rcases List.mem_cons.1 hp with rfl | hp
      · have ho := hd.1
        refine ⟨hk, hc, v, ?_, ?_⟩
        · rw [readVal_same (fun t ht => putT_get nt _ v (fun e => ?_))]
          · exact hv
          · unfold ownOk at ho
            rw [e] at ho
            simp only [Bool.and_eq_true, List.all_eq_true] at ho
            have := ho.2 t ht
            simp at this
        · cases hdst : o.dst with
          | none => rfl
          | some d =>
            unfold ownOk at ho
            rw [hdst] at ho
            simp only [Bool.and_eq_true] at ho
            simp only [slotIs, ho.1, putT, T.get_set, if_true, AV.same_refl]
      · exact he.put v p hp
    · simp at hd
    · rename_i hk
      simp only [Bool.and_eq_true] at hd
      obtain ⟨hg, hdst, hch, hd⟩ := hd
      have k := kind3 (.inr hk)
      have hrv : readVal P tm h ops o = none := by unfold readVal; rw [k.2.1, k.2.2]
      simp only [drawW, k.1, hrv, hch, Bool.not_true, Bool.and_false]
      refine ⟨k.2.1, trivial, he.early, hdst, ?_⟩
      have hx := exec_now hw
      have has : ∃ x, o.op = .assign x := by
        unfold kindOf at hk
        split at hk
        · cases hk
        · split at hk
          · cases hk
          · split at hk
            · rename_i hs
              cases ho : o.op <;> rw [ho] at hs <;> simp [isAssign] at hs
              exact ⟨_, rfl⟩
            · split at hk <;> cases hk
      obtain ⟨x, hop⟩ := has
      have hgn : o.guard = none := by
        cases hgg : o.guard with
        | none => rfl
        | some g => rw [hgg] at hg; cases hg
      have hres : (∃ v, execD P tm h ops o = .val v h) ∨ execD P tm h ops o = .fail := by
        rw [execD_eq]
        have : wantedD tm ops o = true := by unfold wantedD; rw [hgn]
        rw [this, hop]
        simp only [execA]
        cases evalA tm x with
        | none => exact .inr rfl
        | some v => exact .inl ⟨v, rfl⟩
      rcases hres with ⟨v, e⟩ | e
      · rw [e] at hx ⊢
        simp only [exW_val] at hx ⊢
        exact drawW_of_opsW (by rw [pairsOf_dropF]; exact hd) ((he.put v).sub) hx
      · rw [e] at hx; exact absurd hx id
    · rename_i hk
      simp only [Bool.and_eq_true] at hd
      obtain ⟨hdst, hch, hf, hd⟩ := hd
      have k := kind3 (.inl hk)
      have hrv : readVal P tm h ops o = none := by unfold readVal; rw [k.2.1, k.2.2]
      simp only [drawW, k.1, hrv, hch, Bool.not_true, Bool.and_false]
      refine ⟨k.2.1, trivial, he.early, hdst, ?_⟩
      have hx := exec_now hw
      have hgo : ∀ v h', opK P nt ops o.dst (rem.map (·.2)) tm Q v h' → drawW P nt ops rem (dropF (edgesOf o.after.toList) early) (putT nt tm o.dst v) h' Q := fun v h' hv =>
        drawW_of_opsW (by rw [pairsOf_dropF]; exact hd) (((he.put v).sub).free (by rw [pairsOf_dropF]; exact hf) h') hv
      generalize execD P tm h ops o = r at hx ⊢
      cases r with
      | val v h' => exact hgo _ _ hx
      | skip h' => exact hgo _ _ hx
      | enter f args h' => exact CallC.mono P hx hgo
      | round l args h' => exact CallC.mono P hx hgo
      | ext f args h' => obtain ⟨K1, v, h2, a, b, c⟩ := hx; exact ⟨K1, v, h2, a, b, hgo _ _ c⟩
      | _ => exact absurd hx id
    · cases hd
def isDrawn : Code → Bool
  | .region _ _ true => true
  | _ => false
theorem st_draw {fn nt : Nat} {ro : Option Nat} {c : Code} {rp : List Nat} {ds : List Nat} {Q : KQ} (hm : P.follows .mixedOrders = true) (hc : isDrawn (codeI c rp) = true) {ops : Array Oper} (ho : regionOf (codeI c rp) = ops) {rem : List (Nat × Oper)}
    (hd : drawA ops = some ⟨ops, rem, [], false⟩) (hok : drawOk P nt ops rem [] = true) {l : List Oper} (hl : rem.map (·.2) = l) (hw : opsW P nt ops l tm h (Q .norm ds)) : codeW P fn nt ro (codeI c rp) ds tm h Q := by
  revert hc ho; generalize codeI c rp = c; intro hc ho
  cases c with
  | region i ops' d => cases d with
    | true =>
      cases hl
      have ho' : ops' = ops := ho
      subst ho'
      simp only [codeW, hm, hd]
      exact drawW_of_opsW hok (fun p hp => absurd hp List.not_mem_nil) hw
    | false => cases hc
  | _ => cases hc
end
end
end Go.AX

namespace Go.AX
noncomputable section
open Go.RowKit
def CellsAt (h : H) (b o : Nat) (cs : List AV) : Prop := ∀ i, i < cs.length → cellAt h b (o + i) = cs[i]?
inductive SliceAt (h : H) : AV → Nat → List AV → Prop
  | none : SliceAt h .nilslice 0 []
  | zero : SliceAt h .slice0 0 []
  | cell (b o n : Nat) (cap : Cap) (cs : List AV) : b < h.nx → CellsAt h b o cs → SliceAt h (.slice b o n cap) n cs
theorem CellsAt.of_get {h h' : H} {b : Nat} (e : h'.t.get b = h.t.get b) {o : Nat} {cs : List AV} (hc : CellsAt h b o cs) : CellsAt h' b o cs := fun i hi => by
  rw [cellAt_of_get e]; exact hc i hi
theorem CellsAt.only {h h' : H} {S : List Nat} (ho : Only h h' S) {b : Nat} (hb : b < h.nx) (hs : b ∉ S) {o : Nat} {cs : List AV} (hc : CellsAt h b o cs) : CellsAt h' b o cs := hc.of_get (ho.2 b hb hs)
def blkOf : AV → Option Nat
  | .slice b _ _ _ => some b
  | _ => none
theorem SliceAt.only {h h' : H} {S : List Nat} (ho : Only h h' S) {v : AV} {n : Nat} {cs : List AV} (hc : SliceAt h v n cs) (hs : ∀ b, blkOf v = some b → b ∉ S) : SliceAt h' v n cs := by
  cases hc with
  | none => exact .none
  | zero => exact .zero
  | cell b o n cap cs hb hc => exact .cell b o n cap cs (Nat.lt_of_lt_of_le hb ho.1) (hc.only ho hb (hs b rfl))
inductive Grows (size base : Nat) (h : H) : AV → Nat → List AV → Prop
  | none : Grows size base h .nilslice 0 []
  | cell (b n : Nat) (cs : List AV) (t : T AV) (ty : Nat) : base ≤ b → b < h.nx → cs.length = n * size → h.t.get b = some (.cells (n * size) t ⟨size, ty⟩ false) → (∀ j, t.get j = cs[j]?) → Grows size base h (.slice b 0 n (.opn 0)) n cs
theorem loadCells_all {t : T AV} {cs : List AV} (ht : ∀ j, t.get j = cs[j]?) : ∀ (k o : Nat), o + k ≤ cs.length → H.loadCells t o k = some ((cs.drop o).take k)
  | 0, o, _ => by simp [H.loadCells]
  | k + 1, o, hk => by
    have h1 : o < cs.length := by omega
    simp only [H.loadCells, ht, List.getElem?_eq_getElem h1, loadCells_all ht k (o + 1) (by omega)]
    rw [List.drop_eq_getElem_cons h1, List.take_succ_cons]
theorem loadRow_all {t : T AV} {cs : List AV} (ht : ∀ j, t.get j = cs[j]?) (k o : Nat) (hk : o + k ≤ cs.length) : H.loadRow t o k = some ((cs.drop o).take k) := by
  rw [loadRow_eq]; exact loadCells_all ht k o hk
theorem grownL_get (h : H) (old : Option Nat) (k : EK) (l : List AV) (b : Nat) (hb : b < h.nx) : (h.grown old k l).t.get b = if old = some b then none else h.t.get b := by
  unfold H.grown
  cases old with
  | none => simp only [T.get_set]; rw [if_neg (by omega), if_neg (by simp)]
  | some c =>
    simp only [T.get_set]; rw [if_neg (by omega)]
    by_cases e : b = c
    · subst e; simp
    · rw [if_neg e, if_neg (by simpa using fun q => e q.symm)]
theorem grownL_new (h : H) (old : Option Nat) (k : EK) (l : List AV) : (h.grown old k l).t.get h.nx = some (.cells l.length (T.ofRow l) k false) := by
  unfold H.grown; simp only [T.get_set, if_true, lenL_eq]
theorem grownL_nx (h : H) (old : Option Nat) (k : EK) (l : List AV) : (h.grown old k l).nx = h.nx + 1 := rfl
theorem keepK_szL (k : EK) (size : Nat) (e : TypeId) : (keepK k size e).sz = size := by unfold keepK; split <;> rfl
theorem appendN_grows {elem : TypeId} {size base : Nat} {h : H} {v : AV} {n m : Nat} {cs new : List AV} (hg : Grows size base h v n cs) (hb : base ≤ h.nx) (hm : 0 < m) (hs : 0 < size) (hl : new.length = m * size) (hsm : n + m ≤ 4194304) :
    ∃ v' h', appendN elem size v m new h = .val v' h' ∧ Grows size base h' v' (n + m) (cs ++ new) ∧ h'.nx = h.nx + 1 ∧ (∀ b, b < h.nx → blkOf v ≠ some b → h'.t.get b = h.t.get b) ∧ blkOf v' = some h.nx := by
  have e1 : Nat.beq (lenL new) (m * size) = true := by rw [lenL_eq, hl, Nat.beq_refl]
  obtain ⟨m, rfl⟩ : ∃ k, m = k + 1 := ⟨m - 1, by omega⟩
  cases hg with
  | none =>
    have e2 : small (m + 1) = true := by unfold small; rw [Nat.ble_eq]; omega
    refine ⟨.slice h.nx 0 (m + 1) (.opn 0), h.grown none ⟨size, elem + 1⟩ new, ?_, ?_, rfl, fun b hb _ => ?_, rfl⟩
    · unfold appendN; simp only [e1, e2]
    · rw [Nat.zero_add, List.nil_append]
      refine .cell h.nx (m + 1) new (T.ofRow new) (elem + 1) hb (Nat.lt_succ_self _) hl ?_ (T.get_ofRow new)
      rw [grownL_new, hl]
    · rw [grownL_get _ _ _ _ _ hb, if_neg (by simp)]
  | cell b n cs t ty hb1 hb2 hcs hget ht =>
    have hlt : n * size < (n + (m + 1)) * size := Nat.mul_lt_mul_of_pos_right (by omega) hs
    have e2 : small (n + (m + 1)) = true := by unfold small; rw [Nat.ble_eq]; omega
    have e3 : Nat.ble (0 + (n + (m + 1)) * size) (n * size) = false := by rw [← Bool.not_eq_true, Nat.ble_eq]; omega
    have e4 : H.loadRow t 0 (n * size) = some cs := by rw [loadRow_all ht _ _ (by omega), List.drop_zero, ← hcs, List.take_length]
    refine ⟨.slice h.nx 0 (n + (m + 1)) (.opn 0), h.grown (some b) (keepK ⟨size, ty⟩ size elem) (cs ++ new), ?_, ?_, rfl, fun c hc hne => ?_, rfl⟩
    · unfold appendN; simp only [e1, e2, e3, e4, hget, Nat.zero_mul, Nat.beq_refl]
    · have hlen : (cs ++ new).length = (n + (m + 1)) * size := by rw [List.length_append, hcs, hl, ← Nat.add_mul]
      refine .cell h.nx _ _ (T.ofRow (cs ++ new)) (keepK ⟨size, ty⟩ size elem).ty hb (Nat.lt_succ_self _) hlen ?_ (T.get_ofRow _)
      rw [grownL_new, hlen]
      have := keepK_szL ⟨size, ty⟩ size elem
      cases hk : keepK ⟨size, ty⟩ size elem with
      | mk a c => rw [hk] at this; cases this; rfl
    · rw [grownL_get _ _ _ _ _ hc]; exact if_neg hne
theorem Grows.slice {size base : Nat} {h : H} {v : AV} {n : Nat} {cs : List AV} (hg : Grows size base h v n cs) : SliceAt h v n cs := by
  cases hg with
  | none => exact .none
  | cell b n cs t ty hb1 hb2 hcs hget ht =>
    refine .cell b 0 n _ cs hb2 (fun i hi => ?_)
    unfold cellAt; rw [hget, Nat.zero_add]; exact ht i
theorem Grows.of_get {size base : Nat} {h h' : H} {v : AV} {n : Nat} {cs : List AV} (hg : Grows size base h v n cs) (hx : h.nx ≤ h'.nx) (he : ∀ b, blkOf v = some b → h'.t.get b = h.t.get b) : Grows size base h' v n cs := by
  cases hg with
  | none => exact .none
  | cell b n cs t ty hb1 hb2 hcs hget ht => exact .cell b n cs t ty hb1 (Nat.lt_of_lt_of_le hb2 hx) hcs (by rw [he b rfl]; exact hget) ht
end
end Go.AX

namespace Go.AX
noncomputable section
open Go.RowKit
section
variable {P : Program} {tm : T AV} {h : H}
def consL (v : AV) (x : Option (List AV)) : Option (List AV) :=
  match x with
  | some r => some (v :: r)
  | none => none
theorem consL_some (v : AV) (r : List AV) : consL v (some r) = some (v :: r) := id rfl
theorem seqO_nil : seqO [] = some [] := id rfl
theorem seqO_cons (v : AV) (l : List (Option AV)) : seqO (some v :: l) = consL v (seqO l) := id rfl
def aggO (x : Option (List AV)) : Option AV :=
  match x with
  | some r => some (.agg r)
  | none => none
theorem aggO_some (r : List AV) : aggO (some r) = some (.agg r) := id rfl
def ats (h : H) (b o : Nat) : Nat → List (Option AV)
  | 0 => []
  | k + 1 => cellAt h b o :: ats h b (o + 1) k
theorem ats_zero (b o : Nat) : ats h b o 0 = [] := id rfl
theorem ats_succ (b o k : Nat) : ats h b o (k + 1) = cellAt h b o :: ats h b (o + 1) k := id rfl
theorem ats_eq (b : Nat) : ∀ (k o : Nat), ats h b o k = (List.range' o k).map (cellAt h b)
  | 0, o => rfl
  | k + 1, o => by rw [ats_succ, ats_eq b k (o + 1)]; rfl
theorem ld_agg {t : TypeId} {k : Nat} (ht : aggT P t = true) (hk : P.cellsOf t = k + 1) (b o : Nat) : loadV P h t b o = aggO (seqO (ats h b o (k + 1))) := by
  rw [loadV_agg ht hk, ats_eq]; unfold aggO; cases seqO _ <;> rfl
theorem row_ats (b o k : Nat) : h.row b o (k + 1) = seqO (ats h b o (k + 1)) := by rw [row_seqO, ats_eq]
def fillC (place : Nat → Option (Nat × Nat)) (cells : List AV) : List (Nat × List AV) → Option (List AV)
  | [] => some cells
  | (i, l) :: rest => match place i with
    | none => none
    | some (off, size) => match Nat.beq l.length size && Nat.ble (off + l.length) cells.length with
      | true => fillC place (splice cells off l) rest
      | false => none
theorem fillA_C (place : Nat → Option (Nat × Nat)) : ∀ (parts : List (Nat × AV)) (cells : List AV), fillA place cells parts = fillC place cells (parts.map fun p => (p.1, p.2.cells))
  | [], _ => rfl
  | (i, v) :: rest, cells => by
    simp only [fillA, List.map_cons, fillC]
    cases place i with
    | none => rfl
    | some q =>
      obtain ⟨off, size⟩ := q
      simp only
      cases Nat.beq v.cells.length size && Nat.ble (off + v.cells.length) cells.length with
      | true => exact fillA_C place rest _
      | false => rfl
def buildC (P : Program) (t : TypeId) (parts : List (Nat × List AV)) : Option AV :=
  match zeroA P t, P.underlying t with
  | some z, some (.struct fields) =>
    match fields.toList.all (fun f => okT P f.type) with
    | false => none
    | true => match fillC (placeOf P fields.toList) z.cells parts with
    | some l => some (.agg l)
    | none => none
  | some z, some (.array _ elem) =>
    match okT P elem with
    | false => none
    | true => match fillC (fun i => some (i * P.cellsOf elem, P.cellsOf elem)) z.cells parts with
    | some l => some (.agg l)
    | none => none
  | _, _ => none
theorem build_C (t : TypeId) (parts : List (Nat × AV)) : buildA P t parts = buildC P t (parts.map fun p => (p.1, p.2.cells)) := by
  unfold buildA buildC
  cases zeroA P t with
  | none => rfl
  | some z => cases P.underlying t with
    | none => rfl
    | some d => cases d <;> first | rfl | (simp only [fillA_C]; rfl) | simp only [fillA_C]
def sliceR (e : TypeId) (n : Nat) (l : List AV) (h : H) : R :=
  match allOne l with
  | true => .val (.slice h.nx 0 n (.exact n)) (h.newCells e l)
  | false => .fail
theorem sliceR_ok {e : TypeId} {n : Nat} {l : List AV} (hl : allOne l = true) : sliceR e n l h = .val (.slice h.nx 0 n (.exact n)) (h.newCells e l) := by unfold sliceR; rw [hl]
def buildSC (P : Program) (t : TypeId) (n : Nat) (parts : List (Nat × List AV)) : Option (TypeId × List AV) :=
  match P.underlying t with
  | some (.slice elem) =>
    match okT P elem, small (n * P.cellsOf elem), zeroA P elem with
    | true, true, some z => match Nat.beq z.cells.length (P.cellsOf elem), fillC (fun i => some (i * P.cellsOf elem, P.cellsOf elem)) (repl z.cells n) parts with
      | true, some l => some (elem, l)
      | _, _ => none
    | _, _, _ => none
  | _ => none
def buildSR (x : Option (TypeId × List AV)) (n : Nat) (h : H) : R :=
  match x with
  | some (e, l) => sliceR e n l h
  | none => .fail
theorem buildSR_some (e : TypeId) (l : List AV) (n : Nat) : buildSR (some (e, l)) n h = sliceR e n l h := id rfl
theorem buildS_C (t : TypeId) (n : Nat) (parts : List (Nat × AV)) : buildSliceA P t n parts h = buildSR (buildSC P t n (parts.map fun p => (p.1, p.2.cells))) n h := by
  unfold buildSliceA buildSC buildSR
  cases P.underlying t with
  | none => rfl
  | some d => cases d with
    | slice elem =>
      simp only [fillA_C]
      cases okT P elem with
      | false => rfl
      | true => cases small (n * P.cellsOf elem) with
        | false => rfl
        | true => cases zeroA P elem with
          | none => rfl
          | some z =>
            simp only
            cases Nat.beq z.cells.length (P.cellsOf elem) with
            | false => rfl
            | true =>
              cases fillC (fun i => some (i * P.cellsOf elem, P.cellsOf elem)) (repl z.cells n) (parts.map fun p => (p.1, p.2.cells)) with
              | none => rfl
              | some l => simp only [sliceR]; cases allOne l <;> rfl
    | _ => rfl
def convR (P : Program) (src dst : TypeId) (v : AV) (h : H) : R :=
  match P.underlying src, P.underlying dst with
  | some (.pointer t), some .unsafePointer => toUnsafeA P t v h
  | some .unsafePointer, some (.pointer u) => fromUnsafeA P u v h
  | _, _ => convertA P src dst v h
theorem ex_convert (s d : TypeId) (x : Operand) : execA P tm h (.convert s d x) = ob (evalA tm x) fun v => convR P s d v h := by
  simp only [execA]; unfold ob convR; rfl
theorem conv_int {s d : TypeId} {u : TypeDesc} {k : IntKind} (hs : P.underlying s = some u) (hd : P.underlying d = some (.int k)) (j : IntKind) (n : Int) : convR P s d (.int j n) h = .val (.int k (wrapF k n)) h := by
  unfold convR
  rw [hs, hd]
  split
  · rename_i e; cases e
  · rename_i e; cases e
  · unfold convertA; rw [hs, hd]; simp only [forceInt_eq]
theorem bi_len_slice {t e : TypeId} (hu : P.underlying t = some (.slice e)) (b o n : Nat) (c : Cap) (ts : List TypeId) (xs : List AV) : builtinA P .len (t :: ts) (.slice b o n c :: xs) h = .val (.int .i64 (.ofNat n)) h := by
  simp only [builtinA, len_slice hu]
theorem bi_len_nil {t e : TypeId} (hu : P.underlying t = some (.slice e)) (ts : List TypeId) (xs : List AV) : builtinA P .len (t :: ts) (.nilslice :: xs) h = .val (.int .i64 (.ofNat 0)) h := by
  simp only [builtinA, len_nil hu]
theorem bi_len_0 {t e : TypeId} (hu : P.underlying t = some (.slice e)) (ts : List TypeId) (xs : List AV) : builtinA P .len (t :: ts) (.slice0 :: xs) h = .val (.int .i64 (.ofNat 0)) h := by
  simp only [builtinA, len_0 hu]
theorem bi_len_str {t : TypeId} (hu : P.underlying t = some .string) (s : List Nat) (ts : List TypeId) (xs : List AV) : builtinA P .len (t :: ts) (.str s :: xs) h = .val (.int .i64 (.ofNat s.length)) h := by
  simp only [builtinA, len_str hu]
theorem bi_len_any {t e : TypeId} (hu : P.underlying t = some (.slice e)) {v : AV} {n : Nat} {cs : List AV} (hs : SliceAt h v n cs) (ts : List TypeId) (xs : List AV) : builtinA P .len (t :: ts) (v :: xs) h = .val (.int .i64 (.ofNat n)) h := by
  cases hs with
  | none => exact bi_len_nil hu ts xs
  | zero => exact bi_len_0 hu ts xs
  | cell => exact bi_len_slice hu _ _ _ _ ts xs
theorem bi_min (k j : IntKind) (x y : Int) (ts : List TypeId) : builtinA P .min ts [.int k x, .int j y] h = .val (.int k (if y < x then y else x)) h := by
  simp only [builtinA]
  by_cases q : y < x
  · rw [if_pos q]; split
    · rfl
    · rename_i hn _; exact absurd q hn
  · rw [if_neg q]; split
    · rename_i hn _; exact absurd hn q
    · rfl
theorem bi_max (k j : IntKind) (x y : Int) (ts : List TypeId) : builtinA P .max ts [.int k x, .int j y] h = .val (.int k (if x < y then y else x)) h := by
  simp only [builtinA]
  by_cases q : x < y
  · rw [if_pos q]; split
    · rfl
    · rename_i hn _; exact absurd q hn
  · rw [if_neg q]; split
    · rename_i hn _; exact absurd hn q
    · rfl
theorem bi_append {t u e : TypeId} {info : TypeInfo} {u' : TypeDesc} {size : Nat} (hu : P.underlying t = some (.slice e)) (hu2 : P.underlying u = some u') (hn : ∀ k, u' ≠ .int k) (hi : P.info? e = some info) (hk : appendOk P e info = true) (hsz : info.size = size)
    (s : AV) (b o n : Nat) (c : Cap) (ts : List TypeId) (xs : List AV) : builtinA P .append (t :: u :: ts) (s :: .slice b o n c :: xs) h = obs (h.row b o (n * size)) fun new => appendN e size s n new h := by
  subst hsz
  cases u' with
  | int k => exact absurd rfl (hn k)
  | _ => simp only [builtinA, hu, hu2, appendA, hi, lenOfA, hk, srcA]; unfold obs; cases h.row b o (n * info.size) <;> rfl
theorem bi_append_nil {t u e : TypeId} {info : TypeInfo} {u' : TypeDesc} (hu : P.underlying t = some (.slice e)) (hu2 : P.underlying u = some u') (hn : ∀ k, u' ≠ .int k) (hi : P.info? e = some info) (hk : appendOk P e info = true)
    (s : AV) (ts : List TypeId) (xs : List AV) : builtinA P .append (t :: u :: ts) (s :: .nilslice :: xs) h = appendN e info.size s 0 [] h := by
  cases u' with
  | int k => exact absurd rfl (hn k)
  | _ => simp only [builtinA, hu, hu2, appendA, hi, lenOfA, hk, srcA]
theorem exW_grows {elem : TypeId} {size base : Nat} {v : AV} {n m : Nat} {cs new : List AV} {K : AV → H → Prop} (hg : Grows size base h v n cs) (hb : base ≤ h.nx) (hm : 0 < m) (hs : 0 < size) (hl : new.length = m * size) (hsm : n + m ≤ 4194304)
    (hk : ∀ v' h', Grows size base h' v' (n + m) (cs ++ new) → h'.nx = h.nx + 1 → (∀ b, b < h.nx → blkOf v ≠ some b → h'.t.get b = h.t.get b) → blkOf v' = some h.nx → K v' h') : exW P (appendN elem size v m new h) K := by
  obtain ⟨v', h', e, a, b, c, d⟩ := appendN_grows (elem := elem) hg hb hm hs hl hsm
  rw [e]; exact hk v' h' a b c d
theorem b_eqlS {t : TypeId} {x y : Operand} (a b : List Nat) : binR P h .eql t x y (.str a) (.str b) = .val (.bool (decide (a = b))) h := by
  simp only [binR, apartA, binA, strB, optV]
  congr 2
  by_cases e : a = b
  · rw [decide_eq_true e]; exact (listEqB_iff a b).2 e
  · rw [decide_eq_false e]; cases hb : listEqB a b with
    | false => rfl
    | true => exact absurd ((listEqB_iff a b).1 hb) e
theorem b_neqS {t : TypeId} {x y : Operand} (a b : List Nat) : binR P h .neq t x y (.str a) (.str b) = .val (.bool (!decide (a = b))) h := by
  simp only [binR, apartA, binA, strB, optV]
  congr 2
  by_cases e : a = b
  · rw [decide_eq_true e]; rw [(listEqB_iff a b).2 e]
  · rw [decide_eq_false e]; cases hb : listEqB a b with
    | false => rfl
    | true => exact absurd ((listEqB_iff a b).1 hb) e
def eqO (x : Option Bool) (h : H) : R :=
  match x with
  | some r => .val (.bool r) h
  | none => .fail
theorem eqO_some (b : Bool) : eqO (some b) h = .val (.bool b) h := id rfl
def neO (x : Option Bool) (h : H) : R :=
  match x with
  | some r => .val (.bool !r) h
  | none => .fail
theorem neO_some (b : Bool) : neO (some b) h = .val (.bool !b) h := id rfl
theorem b_eqlA {t : TypeId} (hg : P.eqGuardType P.depth t = false) {x y : Operand} (a b : List AV) : binR P h .eql t x y (.agg a) (.agg b) = eqO (eqA P 12 t (.agg a) (.agg b)) h := by
  simp only [binR, apartA, binA, guardEq, hg, Bool.not_false, optV, eqO]
  cases eqA P 12 t (.agg a) (.agg b) <;> rfl
theorem b_neqA {t : TypeId} (hg : P.eqGuardType P.depth t = false) {x y : Operand} (a b : List AV) : binR P h .neq t x y (.agg a) (.agg b) = neO (eqA P 12 t (.agg a) (.agg b)) h := by
  simp only [binR, apartA, binA, guardEq, hg, Bool.not_false, optV, neO]
  cases eqA P 12 t (.agg a) (.agg b) <;> rfl
theorem allOne_nil : allOne [] = true := id rfl
theorem allOne_cons (v : AV) (l : List AV) : allOne (v :: l) = (v.one && allOne l) := by simp only [allOne]; cases v.one <;> rfl
def andO (x y : Option Bool) : Option Bool :=
  match x with
  | some true => y
  | some false => some false
  | none => none
theorem andO_some (a b : Bool) : andO (some a) (some b) = some (a && b) := by cases a <;> rfl
def infoOk (P : Program) (e : TypeId) (size : Nat) : Bool :=
  match P.info? e with
  | some info => appendOk P e info && Nat.beq info.size size
  | none => false
theorem bi_append2 {t u e : TypeId} {u' : TypeDesc} {size : Nat} (hu : P.underlying t = some (.slice e)) (hu2 : P.underlying u = some u') (hn : ∀ k, u' ≠ .int k) (hi : infoOk P e size = true)
    (s : AV) (b o n : Nat) (c : Cap) (ts : List TypeId) (xs : List AV) : builtinA P .append (t :: u :: ts) (s :: .slice b o n c :: xs) h = obs (h.row b o (n * size)) fun new => appendN e size s n new h := by
  unfold infoOk at hi
  split at hi
  · rename_i info hinfo
    rw [Bool.and_eq_true] at hi
    exact bi_append hu hu2 hn hinfo hi.1 (Nat.eq_of_beq_eq_true hi.2) s b o n c ts xs
  · cases hi
def makeOk (P : Program) (e : TypeId) (z : AV) : Bool :=
  match P.info? e with
  | some info => okT P e && small info.bytes && Nat.beq z.cells.length info.size && Nat.ble 1 info.size
  | none => false
theorem makeSlice_eq {t e : TypeId} {z : AV} (hu : P.underlying t = some (.slice e)) (hz : zeroA P e = some z) (hi : makeOk P e z = true) {l c : Nat} (hl : l ≤ c) (hc : c ≤ 4194304) (j k : IntKind) :
    makeSliceA P t (.int j (.ofNat l)) (.int k (.ofNat c)) h = .val (.slice h.nx 0 l (.exact c)) (h.newCells e (repl z.cells c)) := by
  unfold makeOk at hi
  split at hi
  · rename_i info hinfo
    have h1 : (Nat.ble l c && small c) = true := by
      rw [Bool.and_eq_true]; exact ⟨by rw [Nat.ble_eq]; exact hl, by unfold small; rw [Nat.ble_eq]; exact hc⟩
    simp only [makeSliceA, hu, hinfo, hz, h1, hi]
  · cases hi
def makeR (t : TypeId) (P : Program) (l c : AV) (h : H) : R := makeSliceA P t l c h
theorem ex_makeSlice (t : TypeId) (x y : Operand) : execA P tm h (.makeSlice t x y) = ob (evalA tm x) fun l => ob (evalA tm y) fun c => makeSliceA P t l c h := by
  simp only [execA]
  cases evalA tm x with
  | none => cases evalA tm y <;> rfl
  | some v => cases evalA tm y <;> rfl
def natsEq : List Nat → List Nat → Bool
  | [], [] => true
  | a :: l, b :: r => Nat.beq a b && natsEq l r
  | _, _ => false
theorem natsEq_eq : ∀ {l r : List Nat}, natsEq l r = true → l = r
  | [], [], _ => rfl
  | a :: l, b :: r, h => by
    simp only [natsEq, Bool.and_eq_true] at h
    rw [Nat.eq_of_beq_eq_true h.1, natsEq_eq h.2]
  | [], _ :: _, h => by cases h
  | _ :: _, [], h => by cases h
def drawStat (P : Program) (nt : Nat) (ops : Array Oper) : Bool :=
  P.follows .mixedOrders && match drawA ops with
  | some d => natsEq (d.rem.map (·.1)) ((idxd 0 ops.toList).map (·.1)) && drawOk P nt ops (idxd 0 ops.toList) []
  | none => false
theorem idxd_inj {ops : List Oper} {l r : List (Nat × Oper)} (hl : ∀ p, p ∈ l → p ∈ idxd 0 ops) (hr : ∀ p, p ∈ r → p ∈ idxd 0 ops) (he : l.map (·.1) = r.map (·.1)) : l = r := by
  induction l generalizing r with
  | nil => cases r with
    | nil => rfl
    | cons b r => cases he
  | cons a l ih => cases r with
    | nil => cases he
    | cons b r =>
      simp only [List.map_cons, List.cons.injEq] at he
      have h1 := idxd_mem.1 (hl a List.mem_cons_self)
      have h2 := idxd_mem.1 (hr b List.mem_cons_self)
      have : a = b := by
        obtain ⟨i, o⟩ := a; obtain ⟨j, o'⟩ := b
        simp only at he h1 h2
        obtain ⟨rfl, _⟩ := he
        have := h1.2.symm.trans h2.2
        cases this; rfl
      rw [this, ih (fun p hp => hl p (List.mem_cons_of_mem _ hp)) (fun p hp => hr p (List.mem_cons_of_mem _ hp)) he.2]
theorem idxd_snd : ∀ (l : List Oper) (i : Nat), (idxd i l).map (·.2) = l
  | [], _ => rfl
  | o :: l, i => by simp only [idxd, List.map_cons, idxd_snd l]
theorem st_drawn {fn nt : Nat} {ro : Option Nat} {c : Code} {rp : List Nat} {ds : List Nat} {Q : KQ} (hc : isDrawn (codeI c rp) = true) {ops : Array Oper} {l : List Oper} (ho : regionOf (codeI c rp) = ops) (hl : ops.toList = l)
    (hs : drawStat P nt ops = true) (hw : opsW P nt ops l tm h (Q .norm ds)) : codeW P fn nt ro (codeI c rp) ds tm h Q := by
  unfold drawStat at hs
  rw [Bool.and_eq_true] at hs
  obtain ⟨hm, hs⟩ := hs
  split at hs
  · rename_i d hd
    rw [Bool.and_eq_true] at hs
    have hd' : d = ⟨ops, d.rem, [], false⟩ ∧ d.rem = asap (idxd 0 ops.toList) ops.toList.length [] := by
      unfold drawA at hd
      simp only at hd
      split at hd
      · cases hd; exact ⟨rfl, rfl⟩
      · cases hd
    have he : d.rem = idxd 0 ops.toList := by
      refine idxd_inj (ops := ops.toList) (fun p hp => ?_) (fun p hp => hp) (natsEq_eq hs.1)
      rw [hd'.2] at hp
      exact asap_mem hp
    rw [he] at hd'
    rw [hd'.1] at hd
    refine st_draw hm hc ho hd hs.2 ?_ hw
    rw [idxd_snd, hl]
  · cases hs
theorem row_1 (b o : Nat) : h.row b o 1 = seqO [cellAt h b o] := row_ats b o 0
theorem row_2 (b o : Nat) : h.row b o 2 = seqO [cellAt h b o, cellAt h b (o + 1)] := row_ats b o 1
theorem row_3 (b o : Nat) : h.row b o 3 = seqO [cellAt h b o, cellAt h b (o + 1), cellAt h b (o + 2)] := row_ats b o 2
theorem row_4 (b o : Nat) : h.row b o 4 = seqO [cellAt h b o, cellAt h b (o + 1), cellAt h b (o + 2), cellAt h b (o + 3)] := row_ats b o 3
theorem row_5 (b o : Nat) : h.row b o 5 = seqO [cellAt h b o, cellAt h b (o + 1), cellAt h b (o + 2), cellAt h b (o + 3), cellAt h b (o + 4)] := row_ats b o 4
theorem row_6 (b o : Nat) : h.row b o 6 = seqO [cellAt h b o, cellAt h b (o + 1), cellAt h b (o + 2), cellAt h b (o + 3), cellAt h b (o + 4), cellAt h b (o + 5)] := row_ats b o 5
theorem Grows.cells {size base : Nat} {v : AV} {n : Nat} {cs : List AV} (hg : Grows size base h v n cs) : v.cells = [v] := by cases hg <;> rfl
theorem Grows.one {size base : Nat} {v : AV} {n : Nat} {cs : List AV} (hg : Grows size base h v n cs) : v.one = true := by cases hg <;> rfl
theorem Grows.len {size base : Nat} {v : AV} {n : Nat} {cs : List AV} (hg : Grows size base h v n cs) {t e : TypeId} (hu : P.underlying t = some (.slice e)) (h' : H) (ts : List TypeId) (xs : List AV) : builtinA P .len (t :: ts) (v :: xs) h' = .val (.int .i64 (.ofNat n)) h' := by
  cases hg with
  | none => exact bi_len_nil hu ts xs
  | cell => exact bi_len_slice hu _ _ _ _ ts xs
theorem Grows.base {size base : Nat} {v : AV} {n : Nat} {cs : List AV} (hg : Grows size base h v n cs) {b : Nat} (hb : blkOf v = some b) : base ≤ b ∧ b < h.nx := by
  cases hg with
  | none => cases hb
  | cell c n cs t ty h1 h2 => cases hb; exact ⟨h1, h2⟩
theorem SliceAt.len {v : AV} {n : Nat} {cs : List AV} (hs : SliceAt h v n cs) {t e : TypeId} (hu : P.underlying t = some (.slice e)) (h' : H) (ts : List TypeId) (xs : List AV) : builtinA P .len (t :: ts) (v :: xs) h' = .val (.int .i64 (.ofNat n)) h' := by
  cases hs with
  | none => exact bi_len_nil hu ts xs
  | zero => exact bi_len_0 hu ts xs
  | cell => exact bi_len_slice hu _ _ _ _ ts xs
theorem SliceAt.place {v : AV} {n : Nat} {cs : List AV} (hs : SliceAt h v n cs) (hn : 0 < n) : ∃ b o cap, v = .slice b o n cap ∧ b < h.nx ∧ CellsAt h b o cs := by
  cases hs with
  | none => omega
  | zero => omega
  | cell b o n cap cs h1 h2 => exact ⟨b, o, cap, rfl, h1, h2⟩
theorem callC_closed {f : FuncId} {v : AV} {n : Nat} (hg : groundAt P noHook n f [] = some v) {Q : AV → H → Prop} (hq : Q v h) : CallC P (.enter f [] h) Q := by
  refine CallC.of_hook P (groundHook_ok (noHook_ok P) n [f]) (v := v) (h' := h) ?_ hq
  show (match memB f [f] with | true => _ | false => _) = _
  have : memB f [f] = true := by simp [memB]
  rw [this, hg]
def cellR (ok : Bool) (x : Option AV) (k : Nat → Nat → Option (List AV)) : Option (List AV) :=
  match ok, x with
  | true, some (.ptr b o) => k b o
  | _, _ => none
theorem cellR_ptr (b o : Nat) (k : Nat → Nat → Option (List AV)) : cellR true (some (.ptr b o)) k = k b o := id rfl
def consV (x : Option AV) (y : Option (List AV)) : Option (List AV) :=
  match x, y with
  | some v, some vs => some (v :: vs)
  | _, _ => none
theorem consV_some (v : AV) (vs : List AV) : consV (some v) (some vs) = some (v :: vs) := id rfl
theorem evalRes_cell (a : Tmp) (t : TypeId) (l : List ResultVar) : evalRes P tm h (.cell a t :: l) = cellR (okT P t) (tm.get a) fun b o => consV (loadV P h t b o) (evalRes P tm h l) := id rfl
theorem codeW_ret {fn nt : Nat} {ro : Option Nat} {ds : List Nat} {Q : KQ} : codeW P fn nt ro .ret ds tm h Q = Q .ret ds tm h := id rfl
theorem codeW_skip {fn nt : Nat} {ro : Option Nat} {ds : List Nat} {Q : KQ} : codeW P fn nt ro .skip ds tm h Q = Q .norm ds tm h := id rfl
theorem codeW_exit {fn nt : Nat} {ro : Option Nat} {ds : List Nat} {Q : KQ} (i : Nat) : codeW P fn nt ro (.exit i) ds tm h Q = Q (.exit i) ds tm h := id rfl
end
end
end Go.AX

namespace Go.AX
set_option maxRecDepth 10000 in
theorem B : ((((((((type_of% @opsW_none) ∧ ((type_of% @opsW_guard) ∧ (type_of% @opsW_nil))) ∧ (((type_of% @opK_def) ∧ (type_of% @gW_true)) ∧ ((type_of% @gW_false) ∧ (type_of% @guardV_eq)))) ∧ (((type_of% @dstL_zero) ∧ ((type_of% @dstL_succ) ∧ (type_of% @gD_some))) ∧ (((type_of% @gB_bool) ∧ (type_of% @ex_move)) ∧ ((type_of% @ex_assign) ∧ (type_of% @ex_pick))))) ∧ ((((type_of% @pick_true) ∧ ((type_of% @pick_false) ∧ (type_of% @ex_alloc))) ∧ (((type_of% @ex_box) ∧ (type_of% @boxR_ok)) ∧ ((type_of% @ex_build) ∧ (type_of% @ex_buildSlice)))) ∧ ((((type_of% @ex_load) ∧ (type_of% @ex_store)) ∧ ((type_of% @ptrR_ptr) ∧ (type_of% @ex_nilCheck))) ∧ (((type_of% @nilR_ptr) ∧ (type_of% @nilR_func)) ∧ ((type_of% @ex_binOp) ∧ (type_of% @ex_unNot)))))) ∧ (((((type_of% @notR_bool) ∧ ((type_of% @ex_makeFunc) ∧ (type_of% @funcR_some))) ∧ (((type_of% @ex_fieldAddr) ∧ (type_of% @ex_field)) ∧ ((type_of% @ex_indexAddr) ∧ (type_of% @ex_index)))) ∧ (((type_of% @ex_extract) ∧ ((type_of% @tupR_tuple) ∧ (type_of% @ex_call))) ∧ (((type_of% @ex_builtin) ∧ (type_of% @callV_yield)) ∧ ((type_of% @ob_some) ∧ (type_of% @obs_some))))) ∧ ((((type_of% @obp_some) ∧ ((type_of% @obo_some) ∧ (type_of% @obh_some))) ∧ (((type_of% @orUnd_some) ∧ (type_of% @consO_some)) ∧ ((type_of% @consP_some) ∧ (type_of% @mapO_some)))) ∧ ((((type_of% @evalA_tmp) ∧ (type_of% @evalA_const)) ∧ ((type_of% @evalA_func) ∧ (type_of% @evalG_tmp))) ∧ (((type_of% @evalG_const) ∧ (type_of% @evalsA_nil)) ∧ ((type_of% @evalsA_cons) ∧ (type_of% @evalP_nil))))))) ∧ ((((((type_of% @evalP_cons) ∧ ((type_of% @evalO_none) ∧ (type_of% @evalO_some))) ∧ (((type_of% @ofVal_lit) ∧ (type_of% @ofVal_neg)) ∧ ((type_of% @ofVal_negSucc) ∧ (type_of% @ofVal_bool)))) ∧ (((type_of% @ofVal_nilptr) ∧ ((type_of% @ofVal_nilslice) ∧ (type_of% @ofVal_nilmap))) ∧ (((type_of% @ofVal_nilFunc) ∧ (type_of% @ofVal_nilIface)) ∧ ((type_of% @ofVal_str) ∧ (type_of% @exW_val))))) ∧ ((((type_of% @exW_skip) ∧ ((type_of% @exW_enter) ∧ (type_of% @exW_round))) ∧ (((type_of% @exW_ext) ∧ (type_of% @putT_some)) ∧ ((type_of% @putT_no) ∧ (type_of% @seqK_norm)))) ∧ ((((type_of% @seqK_exit) ∧ (type_of% @seqK_ret)) ∧ ((type_of% @blkK_norm) ∧ (type_of% @blkK_exit))) ∧ (((type_of% @blkK_ret) ∧ (type_of% @loopK_norm)) ∧ ((type_of% @loopK_exit) ∧ (type_of% @loopK_ret)))))) ∧ (((((type_of% @codeK_def) ∧ ((type_of% @retK_exit) ∧ (type_of% @T.get_set))) ∧ (((type_of% @T.get_fill0) ∧ (type_of% @List.getElem?_cons_zero.{0})) ∧ ((type_of% @List.getElem?_cons_succ.{0}) ∧ (type_of% @List.getElem?_nil.{0})))) ∧ (((type_of% @List.length_cons.{0}) ∧ ((type_of% @List.length_nil.{0}) ∧ (type_of% @Nat.zero_add))) ∧ (((type_of% @Nat.add_zero) ∧ (type_of% @and_true)) ∧ ((type_of% @true_and) ∧ (type_of% @and_self))))) ∧ ((((type_of% @and_false) ∧ ((type_of% @false_and) ∧ (type_of% @not_true_eq_false))) ∧ (((type_of% @not_false_eq_true) ∧ (type_of% @bb_tt)) ∧ ((type_of% @bb_tf) ∧ (type_of% @bb_ft)))) ∧ ((((type_of% @bb_ff) ∧ (type_of% @b_eql)) ∧ ((type_of% @b_neq) ∧ (type_of% @b_lss))) ∧ (((type_of% @b_leq) ∧ (type_of% @b_gtr)) ∧ ((type_of% @b_geq) ∧ (type_of% @b_add)))))))) ∧ (((((((type_of% @b_sub) ∧ ((type_of% @b_mul) ∧ (type_of% @lt_nat))) ∧ (((type_of% @le_nat) ∧ (type_of% @eq_nat)) ∧ ((type_of% @ne_nat) ∧ (type_of% @tmod_nat)))) ∧ (((type_of% @tdiv_nat) ∧ ((type_of% @cells_bool) ∧ (type_of% @one_bool))) ∧ (((type_of% @cells_int) ∧ (type_of% @one_int)) ∧ ((type_of% @cells_str) ∧ (type_of% @one_str))))) ∧ ((((type_of% @cells_nilptr) ∧ ((type_of% @one_nilptr) ∧ (type_of% @cells_ptr))) ∧ (((type_of% @one_ptr) ∧ (type_of% @cells_nilslice)) ∧ ((type_of% @one_nilslice) ∧ (type_of% @cells_slice0)))) ∧ ((((type_of% @one_slice0) ∧ (type_of% @cells_slice)) ∧ ((type_of% @one_slice) ∧ (type_of% @cells_nilmap))) ∧ (((type_of% @one_nilmap) ∧ (type_of% @cells_map)) ∧ ((type_of% @one_map) ∧ (type_of% @cells_func)))))) ∧ (((((type_of% @one_func) ∧ ((type_of% @cells_yield) ∧ (type_of% @one_yield))) ∧ (((type_of% @cells_nilFunc) ∧ (type_of% @one_nilFunc)) ∧ ((type_of% @cells_iface) ∧ (type_of% @one_iface)))) ∧ (((type_of% @cells_nilIface) ∧ ((type_of% @one_nilIface) ∧ (type_of% @cells_agg))) ∧ (((type_of% @hasAll_zero) ∧ (type_of% @hasAll_succ)) ∧ ((type_of% @Option.isSome_some.{0}) ∧ (type_of% @Bool.and_self))))) ∧ ((((type_of% @Bool.and_true) ∧ ((type_of% @Bool.true_and) ∧ (type_of% @lenGe_cons))) ∧ (((type_of% @lenGe_nil) ∧ (type_of% @List.nil_append.{0})) ∧ ((type_of% @List.append_nil.{0}) ∧ (type_of% @List.cons_append.{0})))) ∧ ((((type_of% @condW_bool) ∧ (type_of% @ifB_true)) ∧ ((type_of% @ifB_false) ∧ (type_of% @Bool.not_true))) ∧ (((type_of% @Bool.not_false) ∧ (type_of% @n_eq_add)) ∧ ((type_of% @add_eq_n) ∧ (type_of% @add_eq_add))))))) ∧ ((((((type_of% @Nat.add_assoc) ∧ ((type_of% @nx_sts) ∧ (type_of% @nx_new))) ∧ (((type_of% @wrAt_sts) ∧ (type_of% @wrAt_new)) ∧ ((type_of% @cellAt_new) ∧ (type_of% @bool_eq_self)))) ∧ (((type_of% @decide_true) ∧ ((type_of% @decide_false) ∧ (type_of% @List.toList_toArray.{0}))) ∧ (((type_of% @retW_eq) ∧ (type_of% @qW_some)) ∧ ((type_of% @evalRes_nil) ∧ (type_of% @evalRes_tmp))))) ∧ ((((type_of% @consR_some) ∧ ((type_of% @oneV_one) ∧ (type_of% @oneV_two))) ∧ (((type_of% @cellAt_sts) ∧ (type_of% @put_sts)) ∧ ((type_of% @Nat.not_lt_zero) ∧ (type_of% @Nat.le_refl)))) ∧ ((((type_of% @Nat.zero_le) ∧ (type_of% @Nat.sub_self)) ∧ ((type_of% @Nat.sub_zero) ∧ (type_of% @consL_some))) ∧ (((type_of% @seqO_nil) ∧ (type_of% @seqO_cons)) ∧ ((type_of% @aggO_some) ∧ (type_of% @build_C)))))) ∧ (((((type_of% @buildS_C) ∧ ((type_of% @sliceR_ok) ∧ (type_of% @buildSR_some))) ∧ (((type_of% @ex_convert) ∧ (type_of% @bi_min)) ∧ ((type_of% @bi_max) ∧ (type_of% @b_eqlS)))) ∧ (((type_of% @b_neqS) ∧ ((type_of% @eqO_some) ∧ (type_of% @neO_some))) ∧ (((type_of% @allOne_nil) ∧ (type_of% @allOne_cons)) ∧ ((type_of% @andO_some) ∧ (type_of% @ex_makeSlice))))) ∧ ((((type_of% @List.map_cons.{0,0}) ∧ ((type_of% @List.map_nil.{0,0}) ∧ (type_of% @row_1))) ∧ (((type_of% @row_2) ∧ (type_of% @row_3)) ∧ ((type_of% @row_4) ∧ (type_of% @row_5)))) ∧ ((((type_of% @row_6) ∧ (type_of% @codeW_ret)) ∧ ((type_of% @codeW_skip) ∧ (type_of% @codeW_exit))) ∧ (((type_of% @gB_und) ∧ (type_of% @cellR_ptr)) ∧ ((type_of% @consV_some) ∧ (type_of% @evalRes_cell))))))))) :=
  ⟨⟨⟨⟨⟨⟨⟨@opsW_none, ⟨@opsW_guard, @opsW_nil⟩⟩, ⟨⟨@opK_def, @gW_true⟩, ⟨@gW_false, @guardV_eq⟩⟩⟩, ⟨⟨@dstL_zero, ⟨@dstL_succ, @gD_some⟩⟩, ⟨⟨@gB_bool, @ex_move⟩, ⟨@ex_assign, @ex_pick⟩⟩⟩⟩, ⟨⟨⟨@pick_true, ⟨@pick_false, @ex_alloc⟩⟩, ⟨⟨@ex_box, @boxR_ok⟩, ⟨@ex_build, @ex_buildSlice⟩⟩⟩, ⟨⟨⟨@ex_load, @ex_store⟩, ⟨@ptrR_ptr, @ex_nilCheck⟩⟩, ⟨⟨@nilR_ptr, @nilR_func⟩, ⟨@ex_binOp, @ex_unNot⟩⟩⟩⟩⟩, ⟨⟨⟨⟨@notR_bool, ⟨@ex_makeFunc, @funcR_some⟩⟩, ⟨⟨@ex_fieldAddr, @ex_field⟩, ⟨@ex_indexAddr, @ex_index⟩⟩⟩, ⟨⟨@ex_extract, ⟨@tupR_tuple, @ex_call⟩⟩, ⟨⟨@ex_builtin, @callV_yield⟩, ⟨@ob_some, @obs_some⟩⟩⟩⟩, ⟨⟨⟨@obp_some, ⟨@obo_some, @obh_some⟩⟩, ⟨⟨@orUnd_some, @consO_some⟩, ⟨@consP_some, @mapO_some⟩⟩⟩, ⟨⟨⟨@evalA_tmp, @evalA_const⟩, ⟨@evalA_func, @evalG_tmp⟩⟩, ⟨⟨@evalG_const, @evalsA_nil⟩, ⟨@evalsA_cons, @evalP_nil⟩⟩⟩⟩⟩⟩, ⟨⟨⟨⟨⟨@evalP_cons, ⟨@evalO_none, @evalO_some⟩⟩, ⟨⟨@ofVal_lit, @ofVal_neg⟩, ⟨@ofVal_negSucc, @ofVal_bool⟩⟩⟩, ⟨⟨@ofVal_nilptr, ⟨@ofVal_nilslice, @ofVal_nilmap⟩⟩, ⟨⟨@ofVal_nilFunc, @ofVal_nilIface⟩, ⟨@ofVal_str, @exW_val⟩⟩⟩⟩, ⟨⟨⟨@exW_skip, ⟨@exW_enter, @exW_round⟩⟩, ⟨⟨@exW_ext, @putT_some⟩, ⟨@putT_no, @seqK_norm⟩⟩⟩, ⟨⟨⟨@seqK_exit, @seqK_ret⟩, ⟨@blkK_norm, @blkK_exit⟩⟩, ⟨⟨@blkK_ret, @loopK_norm⟩, ⟨@loopK_exit, @loopK_ret⟩⟩⟩⟩⟩, ⟨⟨⟨⟨@codeK_def, ⟨@retK_exit, @T.get_set⟩⟩, ⟨⟨@T.get_fill0, @List.getElem?_cons_zero.{0}⟩, ⟨@List.getElem?_cons_succ.{0}, @List.getElem?_nil.{0}⟩⟩⟩, ⟨⟨@List.length_cons.{0}, ⟨@List.length_nil.{0}, @Nat.zero_add⟩⟩, ⟨⟨@Nat.add_zero, @and_true⟩, ⟨@true_and, @and_self⟩⟩⟩⟩, ⟨⟨⟨@and_false, ⟨@false_and, @not_true_eq_false⟩⟩, ⟨⟨@not_false_eq_true, @bb_tt⟩, ⟨@bb_tf, @bb_ft⟩⟩⟩, ⟨⟨⟨@bb_ff, @b_eql⟩, ⟨@b_neq, @b_lss⟩⟩, ⟨⟨@b_leq, @b_gtr⟩, ⟨@b_geq, @b_add⟩⟩⟩⟩⟩⟩⟩, ⟨⟨⟨⟨⟨⟨@b_sub, ⟨@b_mul, @lt_nat⟩⟩, ⟨⟨@le_nat, @eq_nat⟩, ⟨@ne_nat, @tmod_nat⟩⟩⟩, ⟨⟨@tdiv_nat, ⟨@cells_bool, @one_bool⟩⟩, ⟨⟨@cells_int, @one_int⟩, ⟨@cells_str, @one_str⟩⟩⟩⟩, ⟨⟨⟨@cells_nilptr, ⟨@one_nilptr, @cells_ptr⟩⟩, ⟨⟨@one_ptr, @cells_nilslice⟩, ⟨@one_nilslice, @cells_slice0⟩⟩⟩, ⟨⟨⟨@one_slice0, @cells_slice⟩, ⟨@one_slice, @cells_nilmap⟩⟩, ⟨⟨@one_nilmap, @cells_map⟩, ⟨@one_map, @cells_func⟩⟩⟩⟩⟩, ⟨⟨⟨⟨@one_func, ⟨@cells_yield, @one_yield⟩⟩, ⟨⟨@cells_nilFunc, @one_nilFunc⟩, ⟨@cells_iface, @one_iface⟩⟩⟩, ⟨⟨@cells_nilIface, ⟨@one_nilIface, @cells_agg⟩⟩, ⟨⟨@hasAll_zero, @hasAll_succ⟩, ⟨@Option.isSome_some.{0}, @Bool.and_self⟩⟩⟩⟩, ⟨⟨⟨@Bool.and_true, ⟨@Bool.true_and, @lenGe_cons⟩⟩, ⟨⟨@lenGe_nil, @List.nil_append.{0}⟩, ⟨@List.append_nil.{0}, @List.cons_append.{0}⟩⟩⟩, ⟨⟨⟨@condW_bool, @ifB_true⟩, ⟨@ifB_false, @Bool.not_true⟩⟩, ⟨⟨@Bool.not_false, @n_eq_add⟩, ⟨@add_eq_n, @add_eq_add⟩⟩⟩⟩⟩⟩, ⟨⟨⟨⟨⟨@Nat.add_assoc, ⟨@nx_sts, @nx_new⟩⟩, ⟨⟨@wrAt_sts, @wrAt_new⟩, ⟨@cellAt_new, @bool_eq_self⟩⟩⟩, ⟨⟨@decide_true, ⟨@decide_false, @List.toList_toArray.{0}⟩⟩, ⟨⟨@retW_eq, @qW_some⟩, ⟨@evalRes_nil, @evalRes_tmp⟩⟩⟩⟩, ⟨⟨⟨@consR_some, ⟨@oneV_one, @oneV_two⟩⟩, ⟨⟨@cellAt_sts, @put_sts⟩, ⟨@Nat.not_lt_zero, @Nat.le_refl⟩⟩⟩, ⟨⟨⟨@Nat.zero_le, @Nat.sub_self⟩, ⟨@Nat.sub_zero, @consL_some⟩⟩, ⟨⟨@seqO_nil, @seqO_cons⟩, ⟨@aggO_some, @build_C⟩⟩⟩⟩⟩, ⟨⟨⟨⟨@buildS_C, ⟨@sliceR_ok, @buildSR_some⟩⟩, ⟨⟨@ex_convert, @bi_min⟩, ⟨@bi_max, @b_eqlS⟩⟩⟩, ⟨⟨@b_neqS, ⟨@eqO_some, @neO_some⟩⟩, ⟨⟨@allOne_nil, @allOne_cons⟩, ⟨@andO_some, @ex_makeSlice⟩⟩⟩⟩, ⟨⟨⟨@List.map_cons.{0,0}, ⟨@List.map_nil.{0,0}, @row_1⟩⟩, ⟨⟨@row_2, @row_3⟩, ⟨@row_4, @row_5⟩⟩⟩, ⟨⟨⟨@row_6, @codeW_ret⟩, ⟨@codeW_skip, @codeW_exit⟩⟩, ⟨⟨@gB_und, @cellR_ptr⟩, ⟨@consV_some, @evalRes_cell⟩⟩⟩⟩⟩⟩⟩⟩
end Go.AX

namespace Go.AX
noncomputable section
open Go.RowKit
def isRF : Code → Bool
  | .rangeFunc _ _ _ _ => true
  | _ => false
def rfOp : Code → Operand
  | .rangeFunc f _ _ _ => f
  | _ => .const (.bool false)
def rfPs : Code → Array Tmp
  | .rangeFunc _ ps _ _ => ps
  | _ => #[]
def H.obj (h : H) (l : Nat) (o : AObj) : H := { h with t := h.t.set l (some o) }
section
variable {P : Program} {h : H}
theorem get_obj (l b : Nat) (o : AObj) : (h.obj l o).t.get b = if b = l then some o else h.t.get b := by unfold H.obj; exact T.get_set _ _ _ _
theorem get_obj_ne {l b : Nat} (hb : b ≠ l) (o : AObj) : (h.obj l o).t.get b = h.t.get b := by rw [get_obj, if_neg hb]
theorem get_obj_self (l : Nat) (o : AObj) : (h.obj l o).t.get l = some o := by rw [get_obj, if_pos rfl]
theorem nx_obj (l : Nat) (o : AObj) : (h.obj l o).nx = h.nx := id rfl
theorem cellAt_obj {l b : Nat} (hb : b ≠ l) (o : AObj) (i : Nat) : cellAt (h.obj l o) b i = cellAt h b i := cellAt_of_get (get_obj_ne hb o) i
theorem wrAt_obj {l b : Nat} (hb : b ≠ l) (o : AObj) : wrAt (h.obj l o) b = wrAt h b := wrAt_of_get (get_obj_ne hb o)
theorem Only.obj {h h' : H} {S : List Nat} (ho : Only h h' S) {l : Nat} (hb : l ∈ S ∨ h.nx ≤ l) (o : AObj) : Only h (h'.obj l o) S :=
  ⟨ho.1, fun b hb' hs => by rw [get_obj_ne (by rintro rfl; rcases hb with q | q; exact hs q; omega)]; exact ho.2 b hb' hs⟩
theorem get_alloc (o : AObj) (b : Nat) : (h.alloc o).t.get b = if b = h.nx then some o else h.t.get b := by unfold H.alloc; exact T.get_set _ _ _ _
theorem nx_alloc (o : AObj) : (h.alloc o).nx = h.nx + 1 := id rfl
theorem Only.alloc {h h' : H} {S : List Nat} (ho : Only h h' S) (o : AObj) : Only h (h'.alloc o) S :=
  ⟨Nat.le_succ_of_le ho.1, fun b hb hs => by rw [get_alloc, if_neg (by have := ho.1; omega)]; exact ho.2 b hb hs⟩
theorem st_rf {fn nt : Nat} {ro : Option Nat} {c : Code} {rp : List Nat} {ds : List Nat} {tm : T AV} {Q : KQ} (hc : isRF (codeI c rp) = true) {f : Operand} {ps : Array Tmp} (hf : rfOp (codeI c rp) = f) (hp : rfPs (codeI c rp) = ps)
    (hw : rfW P fn nt ro f ps (codeI c (0 :: rp)) (codeI c (1 :: rp)) ds tm h Q) : codeW P fn nt ro (codeI c rp) ds tm h Q := by
  rw [codeI_cons, codeI_cons] at hw
  revert hc hf hp hw; generalize codeI c rp = c; intro hc hf hp hw
  cases c <;> first | (cases hc; done) | (simp only [codeIn, codeIn_nil] at hw; cases hf; cases hp; exact hw)
def loopR (fn nt : Nat) (tm : T AV) (ps : List Tmp) (a b : Code) (d : Nat) (st : LoopState) : ALoop := { state := st, pending := none, fn, nt, tm, params := ps, assign := a, body := b, defers := d }
def loopH (h : H) (fn nt : Nat) (tm : T AV) (ps : List Tmp) (a b : Code) : H := (h.alloc (.deferred (some []))).alloc (.loop (loopR fn nt tm ps a b h.nx .ready))
theorem loopH_nx (fn nt : Nat) (tm : T AV) (ps : List Tmp) (a b : Code) : (loopH h fn nt tm ps a b).nx = h.nx + 2 := id rfl
theorem loopH_get (fn nt : Nat) (tm : T AV) (ps : List Tmp) (a b : Code) (c : Nat) : (loopH h fn nt tm ps a b).t.get c = if c = h.nx + 1 then some (.loop (loopR fn nt tm ps a b h.nx .ready)) else if c = h.nx then some (.deferred (some [])) else h.t.get c := by
  unfold loopH; rw [get_alloc, nx_alloc]; split
  · rfl
  · rw [get_alloc]
theorem loopH_only (fn nt : Nat) (tm : T AV) (ps : List Tmp) (a b : Code) : Only h (loopH h fn nt tm ps a b) [] := ((Only.refl h _).alloc _).alloc _
theorem rf_walk {fn nt : Nat} {f : Operand} {ps : Array Tmp} {a b : Code} {ds : List Nat} {tm : T AV} {Q : KQ} {g : Nat} {cap : List AV} (he : evalA tm f = some (.func g [] cap))
    (hcf : ∀ (args : List AV) (h : H), callV P (.func g [] cap) args h = .enter g (args ++ cap) h)
    (hp : PushC P (.enter g ([.yield (h.nx + 1)] ++ cap) (loopH h fn nt tm ps.toList a b)) fun _ h' => h'.t.get (h.nx + 1) = some (.loop (loopR fn nt tm ps.toList a b h.nx .ready)) ∧
      Q .norm (h.nx :: ds) tm (h'.obj (h.nx + 1) (.loop (loopR fn nt tm ps.toList a b h.nx .exhausted)))) : rfW P fn nt none f ps a b ds tm h Q := by
  unfold rfW
  rw [he]
  simp only
  rw [hcf]
  unfold rfCall
  simp only
  refine PushC.mono P hp ?_
  rintro _ h' ⟨hl, hq⟩
  unfold rfEnd
  rw [hl]
  exact hq
def AsgK (P : Program) (l : Nat) (r : ALoop) (Q : AV → H → Prop) : KQ := fun o ds tm h =>
  match o with
  | .norm => ds = [] ∧ ∃ r', h.t.get l = some (.loop r') ∧ r'.state = .ready ∧ codeW P r.fn r.nt (some l) r.body [] tm { h with t := h.t.set l (some (.loop { r' with state := .busy })) } (roundEnd l Q)
  | _ => False
theorem asg_norm {l : Nat} {r : ALoop} {Q : AV → H → Prop} {tm : T AV} (hl : h.t.get l = some (.loop r)) (hst : r.state = .ready) (hw : codeW P r.fn r.nt (some l) r.body [] tm (h.obj l (.loop { r with state := .busy })) (roundEnd l Q)) :
    AsgK P l r Q .norm [] tm h := ⟨rfl, r, hl, hst, hw⟩
theorem roundEnd_norm {l : Nat} {r : ALoop} {Q : AV → H → Prop} {ds : List Nat} {tm : T AV} (hl : h.t.get l = some (.loop { r with state := .busy })) (hst : r.state = .ready) (hpe : r.pending = none) (hq : Q (.bool true) (h.obj l (.loop r))) : roundEnd l Q .norm ds tm h := by
  unfold roundEnd
  rw [hl]
  have : ({ r with state := .ready, pending := none } : ALoop) = r := by cases r; simp only at hst hpe; subst hst; subst hpe; rfl
  simp only
  rw [this]; exact hq
theorem round_walk {l : Nat} {args : List AV} {r : ALoop} {tm : T AV} {Q : AV → H → Prop} (hl : h.t.get l = some (.loop r)) (hp : setParams r.nt r.tm r.params args = some tm)
    (hw : codeW P r.fn r.nt (some l) r.assign [] tm h (AsgK P l r Q)) : PushC P (.round l args h) Q := pushC_round hl hp hw
end
end
end Go.AX

namespace Go.AX
noncomputable section
open Go.RowKit
section
variable {P : Program} {nt : Nat} {ops : Array Oper}
def drawI (P : Program) (nt : Nat) (ops : Array Oper) (i : Nat) (l : List Oper) (early : List (Nat × Oper × Nat)) (tm : T AV) (h : H) (Q : T AV → H → Prop) : Prop := drawW P nt ops (idxd i l) early tm h Q
def dK (P : Program) (nt : Nat) (ops : Array Oper) (i : Nat) (d : Option Tmp) (l : List Oper) (early : List (Nat × Oper × Nat)) (tm : T AV) (Q : T AV → H → Prop) (v : AV) (h : H) : Prop := drawI P nt ops i l early (putT nt tm d v) h Q
theorem dK_def (i : Nat) (d : Option Tmp) (l : List Oper) (early : List (Nat × Oper × Nat)) (tm : T AV) (Q : T AV → H → Prop) (v : AV) (h : H) : dK P nt ops i d l early tm Q v h = drawI P nt ops i l early (putT nt tm d v) h Q := id rfl
def gX (b : Option Bool) (p q : Prop) : Prop :=
  match b with
  | some true => p
  | some false => q
  | none => False
theorem gX_true (p q : Prop) : gX (some true) p q = p := id rfl
theorem gX_false (p q : Prop) : gX (some false) p q = q := id rfl
theorem gX_split {b w : Bool} {p q : Prop} (h1 : b = w → p) (h2 : b = (!w) → q) : gX (some (b == w)) p q := by
  cases b <;> cases w <;> first | exact h1 rfl | exact h2 rfl
theorem wantW_none' {tm : T AV} {g : Option (Nat × Bool)} (hg : g = none) {p q : Prop} (hp : p) : wantW tm ops g p q := by subst hg; exact hp
theorem wantW_some {tm : T AV} {g : Option (Nat × Bool)} {x : Nat × Bool} (hg : g = some x) {p q : Prop} (hp : gX (guardV tm ops x) p q) : wantW tm ops g p q := by
  subst hg
  obtain ⟨j, w⟩ := x
  unfold wantW
  unfold guardV gX at hp
  simp only at hp ⊢
  cases hd : dstOf ops j with
  | none => rw [hd] at hp; exact hp
  | some d =>
    rw [hd] at hp
    simp only at hp ⊢
    cases hv : tm.get d with
    | none => rw [hv] at hp; exact hp
    | some v =>
      rw [hv] at hp
      cases v with
      | bool b =>
        simp only at hp ⊢
        cases hx : (b == w) with
        | true => rw [hx] at hp; rw [ifB_true]; exact hp
        | false => rw [hx] at hp; rw [ifB_false]; exact hp
      | tuple l => cases l with
        | nil => exact hp
        | cons _ _ => exact hp
      | _ => exact hp
def slotV (nt : Nat) (tm : T AV) (d : Option Tmp) (v : AV) : Prop :=
  match d with
  | none => True
  | some d => d < nt ∧ tm.get d = some v
theorem slotV_none (tm : T AV) (v : AV) : slotV nt tm none v = True := id rfl
theorem slotV_some (tm : T AV) (d : Tmp) (v : AV) : slotV nt tm (some d) v = (d < nt ∧ tm.get d = some v) := id rfl
theorem slotV_is {tm : T AV} {d : Option Tmp} {v : AV} (h : slotV nt tm d v) : slotIs nt tm d v = true := by
  cases d with
  | none => rfl
  | some d =>
    obtain ⟨h1, h2⟩ := h
    have : Nat.blt d nt = true := by rw [Nat.blt_eq]; exact h1
    simp only [slotIs, this, h2, AV.same_refl]
def sK (nt : Nat) (tm : T AV) (d : Option Tmp) (v : AV) (_ : H) : Prop := slotV nt tm d v
theorem sK_def (tm : T AV) (d : Option Tmp) (v : AV) (h : H) : sK nt tm d v h = slotV nt tm d v := id rfl
def gO (tm : T AV) (ops : Array Oper) (g : Option (Nat × Bool)) : Prop :=
  match g with
  | none => True
  | some g => guardV tm ops g = some true
def fX (x : Option (TypeId × List AV × Nat)) (p : TypeId → List AV → Nat → Prop) : Prop :=
  match x with
  | some (t, l, n) => p t l n
  | none => False
theorem fX_some (t : TypeId) (l : List AV) (n : Nat) (p : TypeId → List AV → Nat → Prop) : fX (some (t, l, n)) p = p t l n := id rfl
theorem gO_none (tm : T AV) (ops : Array Oper) : gO tm ops none = True := id rfl
theorem gO_some (tm : T AV) (ops : Array Oper) (g : Nat × Bool) : gO tm ops (some g) = (guardV tm ops g = some true) := id rfl
def obf (x : Option (List (Nat × AV))) (f : List (Nat × AV) → Option (TypeId × List AV × Nat)) : Option (TypeId × List AV × Nat) :=
  match x with
  | some l => f l
  | none => none
theorem obf_some (l : List (Nat × AV)) (f : List (Nat × AV) → Option (TypeId × List AV × Nat)) : obf (some l) f = f l := id rfl
theorem fresh2_bs (tm : T AV) (t : TypeId) (n : Nat) (ps : Array (Nat × Operand)) : fresh2 P tm (.buildSlice t n ps) = obf (evalP tm ps.toList) fun l => rowS P t n l := by
  unfold obf fresh2; rfl
def rowSR (x : Option (TypeId × List AV)) (n : Nat) : Option (TypeId × List AV × Nat) :=
  match x with
  | some (e, l) => match allOne l with
    | true => some (e, l, n)
    | false => none
  | none => none
theorem rowSR_ok {e : TypeId} {l : List AV} {n : Nat} (hl : allOne l = true) : rowSR (some (e, l)) n = some (e, l, n) := by unfold rowSR; simp only [hl]
theorem rowS_C (t : TypeId) (n : Nat) (parts : List (Nat × AV)) : rowS P t n parts = rowSR (buildSC P t n (parts.map fun p => (p.1, p.2.cells))) n := by
  have h := buildS_C (P := P) (h := ⟨.e, 0, 0⟩) t n parts
  unfold rowS buildSC rowSR
  cases P.underlying t with
  | none => rfl
  | some d => cases d with
    | slice elem =>
      simp only [fillA_C]
      cases okT P elem with
      | false => rfl
      | true => cases small (n * P.cellsOf elem) with
        | false => rfl
        | true => cases zeroA P elem with
          | none => rfl
          | some z =>
            simp only
            cases Nat.beq z.cells.length (P.cellsOf elem) with
            | false => rfl
            | true => cases fillC (fun i => some (i * P.cellsOf elem, P.cellsOf elem)) (repl z.cells n) (List.map (fun p => (p.fst, p.snd.cells)) parts) with
              | none => rfl
              | some l => rfl
    | _ => rfl
def noRow : T AV → Bool
  | .e => true
  | .n l _ r => noRow l && noRow r
  | .row _ => false
theorem T.same_nr : ∀ t : T AV, noRow t = true → T.same t t = true
  | .e, _ => rfl
  | .n l v r, h => by
    unfold noRow at h
    rw [Bool.and_eq_true] at h
    unfold T.same
    cases v with
    | none => simp [T.same_nr l h.1, T.same_nr r h.2]
    | some x => simp [AV.same_refl x, T.same_nr l h.1, T.same_nr r h.2]
  | .row _, h => by cases h
theorem gO_wanted {tm : T AV} {ops : Array Oper} {o : Oper} (h : gO tm ops o.guard) : wantedD tm ops o = true := by
  unfold wantedD
  cases hg : o.guard with
  | none => rfl
  | some g =>
    rw [hg] at h
    have h : guardV tm ops g = some true := h
    unfold guardV at h
    obtain ⟨j, w⟩ := g
    simp only at h ⊢
    cases hd : dstOf ops j with
    | none => rw [hd] at h; cases h
    | some d =>
      rw [hd] at h
      simp only at h ⊢
      split at h
      · rename_i b hb; rw [hb]; exact Option.some.inj h
      · cases h
      · cases h
theorem fresh2_mini {tm : T AV} {ops : Array Oper} {o : Oper} : fresh2 P (mini tm (slotsOf ops o)) o.op = fresh2 P tm o.op := by
  obtain ⟨dst, op, ty, pos, after, guard⟩ := o
  cases op with
  | buildSlice t n ps =>
    unfold fresh2
    simp only
    rw [evalP_same (tm := mini tm (slotsOf ops ⟨dst, .buildSlice t n ps, ty, pos, after, guard⟩)) (tm' := tm) (fun t ht => ?_)]
    rw [mini_get, if_pos (slotsOf_ops (tmpsOf_mem (by simpa [Op.operands] using ht)))]
  | makeSlice t a b =>
    unfold fresh2
    simp only
    rw [evalA_same (tm := mini tm (slotsOf ops ⟨dst, .makeSlice t a b, ty, pos, after, guard⟩)) (tm' := tm) (x := a) (fun t ht => ?_), evalA_same (tm := mini tm (slotsOf ops ⟨dst, .makeSlice t a b, ty, pos, after, guard⟩)) (tm' := tm) (x := b) (fun t ht => ?_)]
    · rw [mini_get, if_pos (slotsOf_ops (tmpsOf_mem (by simp [Op.operands, ht])))]
    · rw [mini_get, if_pos (slotsOf_ops (tmpsOf_mem (by simp [Op.operands, ht])))]
  | _ => rfl
def eOk (P : Program) (nt : Nat) (ops : Array Oper) (tm : T AV) (h : H) : List (Nat × Oper × Nat) → Prop
  | [] => True
  | (_, o, b) :: l => (match isAlloc o with
    | false => (isFl o = true ∧ gO tm ops o.guard ∧ fX (fresh2 P tm o.op) (fun t l n => freshIs t l (h.t.get b) = true ∧ slotV nt tm o.dst (.slice b 0 n (.exact n)))) ∨ (isRead o.op || scalarConv P o.op) = true ∧ wantW tm ops o.guard (exW P (execA P tm h o.op) (sK nt tm o.dst)) (slotV nt tm o.dst und)
    | true => ∃ t z, o.op = .alloc t ∧ zeroA P t = some z ∧ freshIs t z.cells (h.t.get b) = true ∧ slotV nt tm o.dst (.ptr b 0)) ∧ eOk P nt ops tm h l
theorem eok_nil {tm : T AV} {h : H} : eOk P nt ops tm h [] := trivial
theorem eok_read {tm : T AV} {h : H} {i b : Nat} {o : Oper} {l : List (Nat × Oper × Nat)} (ha : isAlloc o = false) (hr : isRead o.op = true) (hg : o.guard = none) (hw : exW P (execA P tm h o.op) (sK nt tm o.dst)) (hl : eOk P nt ops tm h l) : eOk P nt ops tm h ((i, o, b) :: l) := by
  refine ⟨?_, hl⟩
  rw [ha]
  exact .inr ⟨by rw [hr]; rfl, wantW_none' hg hw⟩
theorem eok_readg {tm : T AV} {h : H} {i b : Nat} {o : Oper} {l : List (Nat × Oper × Nat)} {g : Nat × Bool} (ha : isAlloc o = false) (hr : isRead o.op = true) (hg : o.guard = some g) (hw : gX (guardV tm ops g) (exW P (execA P tm h o.op) (sK nt tm o.dst)) (slotV nt tm o.dst und)) (hl : eOk P nt ops tm h l) :
    eOk P nt ops tm h ((i, o, b) :: l) := by
  refine ⟨?_, hl⟩
  rw [ha]
  exact .inr ⟨by rw [hr]; rfl, wantW_some hg hw⟩
theorem eok_conv {tm : T AV} {h : H} {i b : Nat} {o : Oper} {l : List (Nat × Oper × Nat)} (ha : isAlloc o = false) (_hx : isConv o.op = true) (hr : scalarConv P o.op = true) (hg : o.guard = none) (hw : exW P (execA P tm h o.op) (sK nt tm o.dst)) (hl : eOk P nt ops tm h l) : eOk P nt ops tm h ((i, o, b) :: l) := by
  refine ⟨?_, hl⟩
  rw [ha]
  exact .inr ⟨by rw [hr, Bool.or_true], wantW_none' hg hw⟩
theorem eok_alloc {tm : T AV} {h : H} {i b : Nat} {o : Oper} {l : List (Nat × Oper × Nat)} {t : TypeId} {z : AV} (ha : isAlloc o = true) (ho : o.op = .alloc t) (hz : zeroA P t = some z) (hf : freshIs t z.cells (h.t.get b) = true) (hs : slotV nt tm o.dst (.ptr b 0)) (hl : eOk P nt ops tm h l) : eOk P nt ops tm h ((i, o, b) :: l) := by
  refine ⟨?_, hl⟩
  rw [ha]
  exact ⟨t, z, ho, hz, hf, hs⟩
theorem eok_float {tm : T AV} {h : H} {i b : Nat} {o : Oper} {l : List (Nat × Oper × Nat)} (ha : isAlloc o = false) (hf : isFl o = true) (hg : gO tm ops o.guard) (hx : fX (fresh2 P tm o.op) (fun t l n => freshIs t l (h.t.get b) = true ∧ slotV nt tm o.dst (.slice b 0 n (.exact n)))) (hl : eOk P nt ops tm h l) : eOk P nt ops tm h ((i, o, b) :: l) := by
  refine ⟨?_, hl⟩
  rw [ha]
  exact .inl ⟨hf, hg, hx⟩
theorem eok_early {tm : T AV} {h : H} : ∀ {l : List (Nat × Oper × Nat)}, eOk P nt ops tm h l → earlyOk P nt tm h ops l = true
  | [], _ => rfl
  | (i, o, b) :: l, ⟨h1, h2⟩ => by
    have : readOk P nt tm h ops o b = true := by
      unfold readOk
      cases ha : isAlloc o with
      | false =>
        rw [ha] at h1
        rcases h1 with ⟨hf, hg, h1⟩ | ⟨hk, hw⟩
        · simp only [hf, wantedD_mini, gO_wanted hg, fresh2_mini]
          cases hx : fresh2 P tm o.op with
          | none => rw [hx] at h1; exact absurd h1 id
          | some x =>
            obtain ⟨t, l, n⟩ := x
            rw [hx] at h1
            obtain ⟨h1, h2⟩ := h1
            simp only [h1]
            exact slotV_is h2
        have hk0 : kindOf P o = 0 := by unfold kindOf; rw [hk]
        obtain ⟨v, hv, hs⟩ := read_now (K := sK nt tm o.dst) hk0 hw
        simp only [kind_fl hk0, hv]
        exact slotV_is hs
      | true =>
        rw [ha] at h1
        obtain ⟨t, z, ho, hz, hf, hs⟩ := h1
        simp only [ho, fresh1, hz, hf]
        exact slotV_is hs
    simp only [earlyOk, this]
    exact eok_early h2
section
variable {i : Nat} {o : Oper} {l : List Oper} {early : List (Nat × Oper × Nat)} {tm : T AV} {h : H} {Q : T AV → H → Prop}
theorem dI_nil (he : eOk P nt ops tm h early) (hq : Q tm h) : drawI P nt ops i [] early tm h Q := ⟨eok_early he, hq⟩
theorem dI_read' (hk : (isRead o.op || scalarConv P o.op) = true) (hw : wantW tm ops o.guard (exW P (execA P tm h o.op) (dK P nt ops (i + 1) o.dst l ((i, o, 0) :: early) tm Q)) (dK P nt ops (i + 1) o.dst l ((i, o, 0) :: early) tm Q und h)) :
    drawI P nt ops i (o :: l) early tm h Q := by
  have hk0 : kindOf P o = 0 := by unfold kindOf; rw [hk]
  obtain ⟨v, hv, hK⟩ := read_now hk0 hw
  unfold drawI
  simp only [idxd, drawW, kind_alloc hk0, hv]
  exact hK
theorem dI_read (hk : isRead o.op = true) (hg : o.guard = none) (hw : exW P (execA P tm h o.op) (dK P nt ops (i + 1) o.dst l ((i, o, 0) :: early) tm Q)) : drawI P nt ops i (o :: l) early tm h Q :=
  dI_read' (by rw [hk]; rfl) (wantW_none' hg hw)
theorem dI_conv (_hx : isConv o.op = true) (hk : scalarConv P o.op = true) (hg : o.guard = none) (hw : exW P (execA P tm h o.op) (dK P nt ops (i + 1) o.dst l ((i, o, 0) :: early) tm Q)) : drawI P nt ops i (o :: l) early tm h Q :=
  dI_read' (by rw [hk, Bool.or_true]) (wantW_none' hg hw)
theorem dI_readg {g : Nat × Bool} (hk : isRead o.op = true) (hg : o.guard = some g) (hw : gX (guardV tm ops g) (exW P (execA P tm h o.op) (dK P nt ops (i + 1) o.dst l ((i, o, 0) :: early) tm Q)) (dK P nt ops (i + 1) o.dst l ((i, o, 0) :: early) tm Q und h)) :
    drawI P nt ops i (o :: l) early tm h Q := dI_read' (by rw [hk]; rfl) (wantW_some hg hw)
theorem dI_exec' (h1 : isRead o.op = false) (h2 : isConv o.op = false) (h3 : isAlloc o = false) (h4 : chainB i [i] (idxd (i + 1) l) = true) (h5 : dstOk nt o.dst = true) (he : eOk P nt ops tm h early)
    (hw : wantW tm ops o.guard (exW P (execA P tm h o.op) (dK P nt ops (i + 1) o.dst l (dropF (edgesOf o.after.toList) early) tm Q)) (dK P nt ops (i + 1) o.dst l (dropF (edgesOf o.after.toList) early) tm Q und h)) :
    drawI P nt ops i (o :: l) early tm h Q := by
  have hrv : readVal P tm h ops o = none := by unfold readVal; rw [h1, h2]
  unfold drawI
  simp only [idxd, drawW, h3, hrv, h4, Bool.not_true, Bool.and_false]
  exact ⟨h1, trivial, eok_early he, h5, exec_now hw⟩
theorem dI_exec (h1 : isRead o.op = false) (h2 : isConv o.op = false) (h3 : isAlloc o = false) (h4 : chainB i [i] (idxd (i + 1) l) = true) (h5 : dstOk nt o.dst = true) (hg : o.guard = none) (he : eOk P nt ops tm h early)
    (hw : exW P (execA P tm h o.op) (dK P nt ops (i + 1) o.dst l (dropF (edgesOf o.after.toList) early) tm Q)) : drawI P nt ops i (o :: l) early tm h Q := dI_exec' h1 h2 h3 h4 h5 he (wantW_none' hg hw)
theorem dI_execg {g : Nat × Bool} (h1 : isRead o.op = false) (h2 : isConv o.op = false) (h3 : isAlloc o = false) (h4 : chainB i [i] (idxd (i + 1) l) = true) (h5 : dstOk nt o.dst = true) (hg : o.guard = some g) (he : eOk P nt ops tm h early)
    (hw : gX (guardV tm ops g) (exW P (execA P tm h o.op) (dK P nt ops (i + 1) o.dst l (dropF (edgesOf o.after.toList) early) tm Q)) (dK P nt ops (i + 1) o.dst l (dropF (edgesOf o.after.toList) early) tm Q und h)) : drawI P nt ops i (o :: l) early tm h Q :=
  dI_exec' h1 h2 h3 h4 h5 he (wantW_some hg hw)
def zF (x : Option AV) (t : TypeId) (o : Option AObj) : Prop :=
  match x with
  | some z => freshIs t z.cells o = true
  | none => False
theorem zF_some (z : AV) (t : TypeId) (o : Option AObj) : zF (some z) t o = (freshIs t z.cells o = true) := id rfl
theorem freshIs_new {t : TypeId} {l : List AV} (hs : T.same (T.ofRow l) (T.ofRow l) = true) : freshIs t l ((h.newCells t l).t.get h.nx) = true := by
  unfold H.newCells H.alloc
  simp only [T.get_set, if_true, freshIs, Nat.beq_refl, Bool.true_and, Bool.and_true, hs]
theorem eok_alloc' {b : Nat} {el : List (Nat × Oper × Nat)} {t : TypeId} (ha : isAlloc o = true) (ho : o.op = .alloc t) (hz : zF (zeroA P t) t (h.t.get b)) (hs : slotV nt tm o.dst (.ptr b 0)) (hl : eOk P nt ops tm h el) : eOk P nt ops tm h ((i, o, b) :: el) := by
  unfold zF at hz
  split at hz
  · rename_i z hz'
    exact eok_alloc ha ho hz' hz hs hl
  · exact absurd hz id
theorem dI_alloc {t : TypeId} (ha : isAlloc o = true) (ho : o.op = .alloc t) (hw : exW P (execA P tm h (.alloc t)) (dK P nt ops (i + 1) o.dst l ((i, o, h.nx) :: early) tm Q)) : drawI P nt ops i (o :: l) early tm h Q := by
  rw [ex_alloc] at hw
  unfold drawI
  cases hz : zeroA P t with
  | none => rw [hz] at hw; exact absurd hw id
  | some z =>
    rw [hz] at hw
    simp only [idxd, drawW, ha, ho, fresh1, hz]
    exact hw
def drawT (P : Program) (ops : Array Oper) : Bool :=
  P.follows .mixedOrders && match drawA ops with
  | some d => natsEq (d.rem.map (·.1)) ((idxd 0 ops.toList).map (·.1))
  | none => false
theorem st_dw {fn : Nat} {ro : Option Nat} {c : Code} {rp : List Nat} {ds : List Nat} {Q : KQ} (hc : isDrawn (codeI c rp) = true) {ops : Array Oper} {l : List Oper} (ho : regionOf (codeI c rp) = ops) (hl : ops.toList = l)
    (hs : drawT P ops = true) (hw : drawI P nt ops 0 l [] tm h (Q .norm ds)) : codeW P fn nt ro (codeI c rp) ds tm h Q := by
  unfold drawT at hs
  rw [Bool.and_eq_true] at hs
  obtain ⟨hm, hs⟩ := hs
  split at hs
  · rename_i d hd
    have hd' : d = ⟨ops, d.rem, [], false⟩ ∧ d.rem = asap (idxd 0 ops.toList) ops.toList.length [] := by
      unfold drawA at hd
      simp only at hd
      split at hd
      · cases hd; exact ⟨rfl, rfl⟩
      · cases hd
    have he : d.rem = idxd 0 ops.toList := by
      refine idxd_inj (ops := ops.toList) (fun p hp => ?_) (fun p hp => hp) (natsEq_eq hs)
      rw [hd'.2] at hp
      exact asap_mem hp
    rw [he] at hd'
    rw [hd'.1] at hd
    subst hl
    revert hc ho; generalize codeI c rp = c; intro hc ho
    cases c with
    | region i ops' d => cases d with
      | true =>
        have ho' : ops' = ops := ho
        subst ho'
        simp only [codeW, hm, hd]
        exact hw
      | false => cases hc
    | _ => cases hc
  · cases hs
theorem undef_one {h : H} {d : Nat} (hd : h.t.get d = some (.deferred (some []))) : undef h [d] = some (h.obj d (.deferred none)) := by
  simp only [undef, hd]; rfl
theorem retW_undef {fn : Func} {rl : List ResultVar} {h : H} {d : Nat} {tm : T AV} {Q : AV → H → Prop} (hd : h.t.get d = some (.deferred (some []))) (hl : fn.results.toList = rl) (hw : retW P rl tm (h.obj d (.deferred none)) Q) : retK P fn Q .ret [d] tm h := by
  have := retW_intro (P := P) (fn := fn) hl hw
  rw [retK_ret] at this ⊢
  obtain ⟨h2, hu, r⟩ := this
  cases hu
  exact ⟨_, undef_one hd, r⟩
theorem retW_undefN {fn : Func} {rl : List ResultVar} {h : H} {d : Nat} {tm : T AV} {Q : AV → H → Prop} (hd : h.t.get d = some (.deferred (some []))) (hl : fn.results.toList = rl) (hw : retW P rl tm (h.obj d (.deferred none)) Q) : retK P fn Q .norm [d] tm h := by
  have := retW_undef (P := P) (fn := fn) hd hl hw
  rw [retK_ret] at this
  rw [retK_norm]
  exact this
theorem retW_norm {fn : Func} {rl : List ResultVar} {h : H} {tm : T AV} {Q : AV → H → Prop} (hl : fn.results.toList = rl) (hw : retW P rl tm h Q) : retK P fn Q .norm [] tm h := by
  have := retW_intro (P := P) (fn := fn) hl hw
  rw [retK_ret] at this
  rw [retK_norm]
  exact this
end
end
end
end Go.AX

namespace Go.AX
noncomputable section
open Go.RowKit
section
variable {P : Program} {h : H}
theorem allOne_iff : ∀ {l : List AV}, allOne l = true ↔ ∀ v, v ∈ l → v.one = true
  | [] => by simp [allOne]
  | v :: l => by
    rw [allOne_cons, Bool.and_eq_true, allOne_iff]
    simp
theorem loadCells_ok {cs : T AV} : ∀ (k o : Nat) (l : List AV), l.length = k → (∀ i, i < k → cs.get (o + i) = l[i]?) → H.loadCells cs o k = some l
  | 0, o, l, hl, _ => by rw [List.length_eq_zero_iff.1 hl]; rfl
  | k + 1, o, [], hl, _ => by simp at hl
  | k + 1, o, v :: l, hl, hc => by
    have h0 := hc 0 (by omega)
    simp only [Nat.add_zero, List.getElem?_cons_zero] at h0
    have ih := loadCells_ok (cs := cs) k (o + 1) l (by simpa using hl) (fun i hi => by
      have := hc (i + 1) (by omega)
      rw [show o + 1 + i = o + (i + 1) by omega, this, List.getElem?_cons_succ])
    simp only [H.loadCells, h0, ih]
theorem row_ok {b o : Nat} {cs : List AV} (hc : CellsAt h b o cs) (h0 : cs ≠ []) : h.row b o cs.length = some cs := by
  obtain ⟨v, l, rfl⟩ : ∃ v l, cs = v :: l := by cases cs with | nil => exact absurd rfl h0 | cons v l => exact ⟨v, l, rfl⟩
  have h1 := hc 0 (by simp)
  unfold CellsAt cellAt at hc
  unfold cellAt at h1
  unfold H.row
  cases hb : h.t.get b with
  | none => rw [hb] at h1; simp at h1
  | some x =>
    cases x with
    | cells n t k ro =>
      rw [hb] at hc
      simp only [loadRow_eq]
      exact loadCells_ok _ _ _ rfl hc
    | _ => rw [hb] at h1; simp at h1
theorem put_ok {b o : Nat} {l : List AV} (hw : wrAt h b = true) (hc : ∀ i, i < l.length → cellAt h b (o + i) ≠ none) (ho : allOne l = true) :
    ∃ h', h.put b o l = some h' ∧ h'.nx = h.nx ∧ (∀ c, c ≠ b → h'.t.get c = h.t.get c) ∧ wrAt h' b = true ∧ ∀ j, cellAt h' b j = if o ≤ j ∧ j < o + l.length then l[j - o]? else cellAt h b j := by
  unfold wrAt at hw
  split at hw
  · rename_i n cs k hb
    have hcs : ∀ i, i < l.length → cs.get (o + i) ≠ none := fun i hi => by
      have := hc i hi; unfold cellAt at this; rwa [hb] at this
    have hput : ∃ cs', H.putRow cs o l = some cs' ∧ ∀ j, cs'.get j = if o ≤ j ∧ j < o + l.length then l[j - o]? else cs.get j := by
      have hgen : H.putCells cs o l = some (setL cs o l) := putCells_setL l cs o ho hcs
      unfold H.putRow
      split
      · rename_i xs
        cases hx : (lenGe 300 l && (Nat.ble (o + lenL l) (lenL xs) && allOne l)) with
        | false => exact ⟨_, hgen, setL_get l _ o⟩
        | true =>
          rw [Bool.and_eq_true, Bool.and_eq_true, Nat.ble_eq, lenL_eq, lenL_eq] at hx
          obtain ⟨-, hle, -⟩ := hx
          refine ⟨_, rfl, fun j => ?_⟩
          rw [T.get_row, lenL_eq]
          by_cases q : o ≤ j ∧ j < o + l.length
          · rw [if_pos q, List.getElem?_append_right (by rw [List.length_take]; omega), List.length_take, Nat.min_eq_left (by omega), List.getElem?_append_left (by omega)]
          · rw [if_neg q, T.get_row]
            by_cases q2 : j < o
            · rw [List.getElem?_append_left (by rw [List.length_take]; omega), List.getElem?_take, if_pos q2]
            · rw [List.getElem?_append_right (by rw [List.length_take]; omega), List.length_take, Nat.min_eq_left (by omega), List.getElem?_append_right (by omega), List.getElem?_drop]
              congr 1; omega
      · exact ⟨_, hgen, setL_get l _ o⟩
    obtain ⟨cs', hp, hget⟩ := hput
    refine ⟨{ h with t := h.t.set b (some (.cells n cs' k false)) }, by unfold H.put; simp only [hb, hp], rfl, fun c hcb => by simp only [T.get_set, hcb, if_false], by unfold wrAt; simp only [T.get_set, if_true], fun j => ?_⟩
    unfold cellAt
    simp only [T.get_set, if_true, hb, hget]
  · cases hw
theorem SliceAt.blk {v : AV} {n : Nat} {cs : List AV} (hs : SliceAt h v n cs) : ∀ c, blkOf v = some c → c < h.nx := by
  intro c hc
  cases hs with
  | none => cases hc
  | zero => cases hc
  | cell b o n cap cs hb => cases hc; exact hb
theorem cells_made {t : TypeId} {l : List AV} (b o : Nat) : cellAt (h.newCells t l) b o = if b = h.nx then l[o]? else cellAt h b o := cellAt_new h t l b o
theorem repl_len (l : List AV) : ∀ n : Nat, (repl l n).length = n * l.length
  | 0 => by simp [repl]
  | n + 1 => by rw [repl, List.length_append, repl_len l n, Nat.add_mul]; omega
theorem exW_copy {t e : TypeId} {ts : List TypeId} {size : Nat} {b o n : Nat} {cap : Cap} {x : AV} {xs : List AV} {cs : List AV} {K : AV → H → Prop} (hu : P.underlying t = some (.slice e)) (hok : okT P e = true) (hsz : P.cellsOf e = size) (hx : SliceAt h x n cs) (hlen : cs.length = n * size)
    (hnz : cs = [] → x = .nilslice) (hw : wrAt h b = true) (hc : ∀ i, i < cs.length → cellAt h b (o + i) ≠ none) (ho : allOne cs = true)
    (hk : ∀ h', h'.nx = h.nx → (∀ c, c ≠ b → h'.t.get c = h.t.get c) → wrAt h' b = true → (∀ j, cellAt h' b j = if o ≤ j ∧ j < o + cs.length then cs[j - o]? else cellAt h b j) → K (.int .i64 (.ofNat n)) h') :
    exW P (builtinA P .copy (t :: ts) (.slice b o n cap :: x :: xs) h) K := by
  obtain ⟨h', hp, h1, h2, h3, h4⟩ := put_ok hw hc ho
  have hl : lenOfA x = some n := by cases hx <;> rfl
  have hs : srcA h size n x = some cs := by
    by_cases q : cs = []
    · subst q
      rw [hnz rfl]; rfl
    · cases hx with
      | none => exact absurd rfl q
      | zero => exact absurd rfl q
      | cell b2 o2 n cap2 cs hb hc2 => show h.row b2 o2 (n * size) = some cs; rw [← hlen]; exact row_ok hc2 q
  have : builtinA P .copy (t :: ts) (.slice b o n cap :: x :: xs) h = .val (.int .i64 (.ofNat n)) h' := by
    have hd : lenOfA (.slice b o n cap) = some n := rfl
    have hmin : Nat.min n n = n := Nat.min_self n
    simp only [builtinA, hu, copyA, hd, hl, hmin, hsz, hs, hok, hp]
  rw [this]
  exact hk h' h1 h2 h3 h4
theorem exW_place {elem : TypeId} {size b o len c n : Nat} {new : List AV} {K : AV → H → Prop} (hn : len + n ≤ c) (hl : new.length = n * size) (hw : wrAt h b = true) (hc : ∀ i, i < new.length → cellAt h b (o + len * size + i) ≠ none) (ho : allOne new = true)
    (hk : ∀ h', h'.nx = h.nx → (∀ c, c ≠ b → h'.t.get c = h.t.get c) → wrAt h' b = true → (∀ j, cellAt h' b j = if o + len * size ≤ j ∧ j < o + len * size + new.length then new[j - (o + len * size)]? else cellAt h b j) → K (.slice b o (len + n) (.exact c)) h') :
    exW P (appendN elem size (.slice b o len (.exact c)) n new h) K := by
  obtain ⟨h', hp, h1, h2, h3, h4⟩ := put_ok hw hc ho
  have e1 : Nat.beq (lenL new) (n * size) = true := by rw [lenL_eq, hl, Nat.beq_refl]
  have e2 : Nat.ble (len + n) c = true := by rw [Nat.ble_eq]; exact hn
  have : appendN elem size (.slice b o len (.exact c)) n new h = .val (.slice b o (len + n) (.exact c)) h' := by
    unfold appendN; simp only [e1, e2, hp]
  rw [this]
  exact hk h' h1 h2 h3 h4
end
end
end Go.AX

namespace Go.AX
noncomputable section
open Go.RowKit
def nthO : List Oper → Nat → Option Oper
  | [], _ => none
  | o :: _, 0 => some o
  | _ :: l, n + 1 => nthO l n
def pickL (l : List Oper) : List Nat → List (Nat × Oper)
  | [] => []
  | n :: ns => match nthO l n with
    | some o => (n, o) :: pickL l ns
    | none => []
theorem nthO_idxd : ∀ (l : List Oper) (i : Nat) (p : Nat × Oper), p ∈ idxd i l → i ≤ p.1 ∧ nthO l (p.1 - i) = some p.2
  | [], _, _, h => by cases h
  | o :: l, i, p, h => by
    simp only [idxd, List.mem_cons] at h
    rcases h with rfl | h
    · exact ⟨Nat.le_refl _, by rw [Nat.sub_self]; rfl⟩
    · obtain ⟨h1, h2⟩ := nthO_idxd l (i + 1) p h
      refine ⟨by omega, ?_⟩
      rw [show p.1 - i = (p.1 - (i + 1)) + 1 by omega]
      exact h2
theorem pickL_map {l : List Oper} : ∀ (rem : List (Nat × Oper)), (∀ p, p ∈ rem → nthO l p.1 = some p.2) → pickL l (rem.map (·.1)) = rem
  | [], _ => rfl
  | p :: rem, h => by
    have h1 := h p (by simp)
    have h2 := pickL_map rem (fun q hq => h q (List.mem_cons_of_mem _ hq))
    simp only [List.map_cons, pickL, h1, h2]
section
variable {P : Program} {nt : Nat} {ops : Array Oper}
def drawP (P : Program) (nt : Nat) (ops : Array Oper) (l : List Oper) (os : List Nat) (early : List (Nat × Oper × Nat)) (tm : T AV) (h : H) (Q : T AV → H → Prop) : Prop := drawW P nt ops (pickL l os) early tm h Q
def pK (P : Program) (nt : Nat) (ops : Array Oper) (l : List Oper) (os : List Nat) (d : Option Tmp) (early : List (Nat × Oper × Nat)) (tm : T AV) (Q : T AV → H → Prop) (v : AV) (h : H) : Prop := drawP P nt ops l os early (putT nt tm d v) h Q
theorem pK_def (l : List Oper) (os : List Nat) (d : Option Tmp) (early : List (Nat × Oper × Nat)) (tm : T AV) (Q : T AV → H → Prop) (v : AV) (h : H) : pK P nt ops l os d early tm Q v h = drawP P nt ops l os early (putT nt tm d v) h Q := id rfl
section
variable {n : Nat} {o : Oper} {l : List Oper} {os : List Nat} {early : List (Nat × Oper × Nat)} {tm : T AV} {h : H} {Q : T AV → H → Prop}
theorem dP_nil (he : eOk P nt ops tm h early) (hq : Q tm h) : drawP P nt ops l [] early tm h Q := ⟨eok_early he, hq⟩
theorem dP_read' (hn : nthO l n = some o) (hk : (isRead o.op || scalarConv P o.op) = true) (hw : wantW tm ops o.guard (exW P (execA P tm h o.op) (pK P nt ops l os o.dst ((n, o, 0) :: early) tm Q)) (pK P nt ops l os o.dst ((n, o, 0) :: early) tm Q und h)) :
    drawP P nt ops l (n :: os) early tm h Q := by
  have hk0 : kindOf P o = 0 := by unfold kindOf; rw [hk]
  obtain ⟨v, hv, hK⟩ := read_now hk0 hw
  unfold drawP
  simp only [pickL, hn, drawW, kind_alloc hk0, hv]
  exact hK
theorem dP_read (hn : nthO l n = some o) (hk : isRead o.op = true) (hg : o.guard = none) (hw : exW P (execA P tm h o.op) (pK P nt ops l os o.dst ((n, o, 0) :: early) tm Q)) : drawP P nt ops l (n :: os) early tm h Q :=
  dP_read' hn (by rw [hk]; rfl) (wantW_none' hg hw)
theorem dP_conv (hn : nthO l n = some o) (_hx : isConv o.op = true) (hk : scalarConv P o.op = true) (hg : o.guard = none) (hw : exW P (execA P tm h o.op) (pK P nt ops l os o.dst ((n, o, 0) :: early) tm Q)) : drawP P nt ops l (n :: os) early tm h Q :=
  dP_read' hn (by rw [hk, Bool.or_true]) (wantW_none' hg hw)
theorem dP_readg {g : Nat × Bool} (hn : nthO l n = some o) (hk : isRead o.op = true) (hg : o.guard = some g) (hw : gX (guardV tm ops g) (exW P (execA P tm h o.op) (pK P nt ops l os o.dst ((n, o, 0) :: early) tm Q)) (pK P nt ops l os o.dst ((n, o, 0) :: early) tm Q und h)) :
    drawP P nt ops l (n :: os) early tm h Q := dP_read' hn (by rw [hk]; rfl) (wantW_some hg hw)
theorem dP_exec' (hn : nthO l n = some o) (h1 : isRead o.op = false) (h2 : isConv o.op = false) (h3 : isAlloc o = false) (h4 : chainB n [n] (pickL l os) = true) (h5 : dstOk nt o.dst = true) (he : eOk P nt ops tm h early)
    (hw : wantW tm ops o.guard (exW P (execA P tm h o.op) (pK P nt ops l os o.dst (dropF (edgesOf o.after.toList) early) tm Q)) (pK P nt ops l os o.dst (dropF (edgesOf o.after.toList) early) tm Q und h)) :
    drawP P nt ops l (n :: os) early tm h Q := by
  have hrv : readVal P tm h ops o = none := by unfold readVal; rw [h1, h2]
  unfold drawP
  simp only [pickL, hn, drawW, h3, hrv, h4, Bool.not_true, Bool.and_false]
  exact ⟨h1, trivial, eok_early he, h5, exec_now hw⟩
theorem dP_exec (hn : nthO l n = some o) (h1 : isRead o.op = false) (h2 : isConv o.op = false) (h3 : isAlloc o = false) (h4 : chainB n [n] (pickL l os) = true) (h5 : dstOk nt o.dst = true) (hg : o.guard = none) (he : eOk P nt ops tm h early)
    (hw : exW P (execA P tm h o.op) (pK P nt ops l os o.dst (dropF (edgesOf o.after.toList) early) tm Q)) : drawP P nt ops l (n :: os) early tm h Q := dP_exec' hn h1 h2 h3 h4 h5 he (wantW_none' hg hw)
theorem dP_execg {g : Nat × Bool} (hn : nthO l n = some o) (h1 : isRead o.op = false) (h2 : isConv o.op = false) (h3 : isAlloc o = false) (h4 : chainB n [n] (pickL l os) = true) (h5 : dstOk nt o.dst = true) (hg : o.guard = some g) (he : eOk P nt ops tm h early)
    (hw : gX (guardV tm ops g) (exW P (execA P tm h o.op) (pK P nt ops l os o.dst (dropF (edgesOf o.after.toList) early) tm Q)) (pK P nt ops l os o.dst (dropF (edgesOf o.after.toList) early) tm Q und h)) : drawP P nt ops l (n :: os) early tm h Q :=
  dP_exec' hn h1 h2 h3 h4 h5 he (wantW_some hg hw)
theorem dP_alloc {t : TypeId} (hn : nthO l n = some o) (ha : isAlloc o = true) (ho : o.op = .alloc t) (hw : exW P (execA P tm h (.alloc t)) (pK P nt ops l os o.dst ((n, o, h.nx) :: early) tm Q)) : drawP P nt ops l (n :: os) early tm h Q := by
  rw [ex_alloc] at hw
  unfold drawP
  cases hz : zeroA P t with
  | none => rw [hz] at hw; exact absurd hw id
  | some z =>
    rw [hz] at hw
    simp only [pickL, hn, drawW, ha, ho, fresh1, hz]
    exact hw
theorem dP_float (hn : nthO l n = some o) (hf : isFl o = true) (h3 : isAlloc o = false) (h4 : chainB n [n] (pickL l os) = false) (hg : gO tm ops o.guard)
    (hx : fX (fresh2 P tm o.op) fun t r k => pK P nt ops l os o.dst ((n, o, h.nx) :: early) tm Q (.slice h.nx 0 k (.exact k)) (h.newCells t r)) : drawP P nt ops l (n :: os) early tm h Q := by
  obtain ⟨-, -, h1, hcv⟩ := isFl_facts hf
  have hrv : readVal P tm h ops o = none := by unfold readVal; rw [h1, hcv]
  unfold drawP
  simp only [pickL, hn, drawW, h3, hrv, hf, h4, Bool.not_false, Bool.and_true, wantedD_mini, gO_wanted hg, fresh2_mini]
  refine ⟨h1, trivial, ?_⟩
  cases hq : fresh2 P tm o.op with
  | none => rw [hq] at hx; exact absurd hx id
  | some x =>
    obtain ⟨t, r, k⟩ := x
    rw [hq] at hx
    exact hx
def drawO (P : Program) (ops : Array Oper) (os : List Nat) : Bool :=
  P.follows .mixedOrders && match drawA ops with
  | some d => natsEq (d.rem.map (·.1)) os
  | none => false
theorem st_dp {fn : Nat} {ro : Option Nat} {c : Code} {rp : List Nat} {ds : List Nat} {Q : KQ} {os : List Nat} (hs : drawO P (regionOf (codeI c rp)) os = true) (hc : isDrawn (codeI c rp) = true) {ops : Array Oper} {l : List Oper} (ho : regionOf (codeI c rp) = ops) (hl : ops.toList = l)
    (hw : drawP P nt ops l os [] tm h (Q .norm ds)) : codeW P fn nt ro (codeI c rp) ds tm h Q := by
  unfold drawO at hs
  rw [Bool.and_eq_true, ho] at hs
  obtain ⟨hm, hs⟩ := hs
  split at hs
  · rename_i d hd
    have hd' : d = ⟨ops, d.rem, [], false⟩ ∧ d.rem = asap (idxd 0 ops.toList) ops.toList.length [] := by
      unfold drawA at hd
      simp only at hd
      split at hd
      · cases hd; exact ⟨rfl, rfl⟩
      · cases hd
    have he : d.rem = pickL ops.toList os := by
      rw [← natsEq_eq hs]
      refine (pickL_map d.rem (fun p hp => ?_)).symm
      rw [hd'.2] at hp
      have := nthO_idxd _ _ _ (asap_mem hp)
      simpa using this.2
    rw [he] at hd'
    rw [hd'.1] at hd
    subst hl
    revert hc ho; generalize codeI c rp = c; intro hc ho
    cases c with
    | region i ops' d => cases d with
      | true =>
        have ho' : ops' = ops := ho
        subst ho'
        simp only [codeW, hm, hd]
        exact hw
      | false => cases hc
    | _ => cases hc
  · cases hs
end
end
end
end Go.AX


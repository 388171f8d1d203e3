/-
  AX: walks: what is so of a frame at work, whatever is below it.
-/
import Derived.Test.YtnedigoajoflaaaAxF
set_option linter.unusedSimpArgs false
set_option linter.unusedVariables false
namespace Go.AX
noncomputable section
open Go.RowKit
def ifB (b : Bool) (p q : Prop) : Prop := (b = true → p) ∧ (b = false → q)
@[simp] theorem ifB_true {p q : Prop} : ifB true p q = p := by simp [ifB]
@[simp] theorem ifB_false {p q : Prop} : ifB false p q = q := by simp [ifB]
section
variable (P : Program)
def pushS (c : AFrame) (cs : List AFrame) : R → Option S
  | .enter f args h => match enterA P f args .normal with
    | some fr => some ⟨fr, c :: cs, h⟩
    | none => none
  | .round l args h => match h.t.get l with
    | some (.loop r) => match setParams r.nt r.tm r.params args with
      | some tm => some ⟨{ fn := r.fn, nt := r.nt, tm, todo := [.code r.assign, .beginRound, .code r.body], defers := [], mode := .run, kind := .normal, roundOf := some l }, c :: cs, h⟩
      | none => none
    | _ => none
  | _ => none
def Leads (s : S) (T : S → Prop) : Prop :=
  ∀ (N : NN) (w0 : World) (bot : List Frame) (φ : Phi) (fr : Frame) (cs : List Frame) (w : World), SR N w0 φ s fr cs w → ∃ s', T s' ∧ GoesN P N w0 bot φ fr cs w s'
theorem Leads.of_reach {s s' : S} {T : S → Prop} (h : Reach P s s') (ht : T s') : Leads P s T := fun N w0 bot φ fr cs w hs => ⟨s', ht, h N w0 bot φ fr cs w hs⟩
theorem Leads.bind {s : S} {T U : S → Prop} (h : Leads P s T) (k : ∀ s', T s' → Leads P s' U) : Leads P s U := fun N w0 bot φ fr cs w hs => by
  obtain ⟨s1, t1, N1, φ1, fr1, cs1, w1, e1, l1, st1, sr1⟩ := h N w0 bot φ fr cs w hs
  obtain ⟨s2, t2, N2, φ2, fr2, cs2, w2, e2, l2, st2, sr2⟩ := k s1 t1 N1 w0 bot φ1 fr1 cs1 w1 sr1
  exact ⟨s2, t2, N2, φ2, fr2, cs2, w2, e2.trans e1, Phi.le_trans l1 l2, Steps.trans st1 st2, sr2⟩
theorem Leads.mono {s : S} {T U : S → Prop} (h : Leads P s T) (k : ∀ s', T s' → U s') : Leads P s U := fun N w0 bot φ fr cs w hs => let ⟨s1, t1, g⟩ := h N w0 bot φ fr cs w hs; ⟨s1, k s1 t1, g⟩
def BackAt (c : AFrame) (cs : List AFrame) (Q : AV → H → Prop) (s' : S) : Prop := ∃ v h' c', Q v h' ∧ c.finish v = some c' ∧ s' = ⟨c', cs, h'⟩
def PushC (r : R) (Q : AV → H → Prop) : Prop :=
  ∀ (c : AFrame) (cs : List AFrame), (∀ v, ∃ c', c.finish v = some c') → ∃ s0, pushS P c cs r = some s0 ∧ Leads P s0 (BackAt c cs Q)
def CallC (r : R) (Q : AV → H → Prop) : Prop :=
  PushC P r Q ∨ (∃ f args h K v h', r = .enter f args h ∧ HookOk P K ∧ K.call f args h = some (v, h') ∧ Q v h')
theorem PushC.mono {r : R} {Q Q' : AV → H → Prop} (hc : PushC P r Q) (hq : ∀ v h, Q v h → Q' v h) : PushC P r Q' :=
  fun c cs hf => let ⟨s0, a, d⟩ := hc c cs hf; ⟨s0, a, d.mono P fun s' ⟨v, h', c', q, e1, e2⟩ => ⟨v, h', c', hq _ _ q, e1, e2⟩⟩
theorem PushC.call {r : R} {Q : AV → H → Prop} (hc : PushC P r Q) : CallC P r Q := .inl hc
def ExtC (f : FuncId) (args : List AV) (h : H) (Q : AV → H → Prop) : Prop :=
  ∃ K v h', HookOk P K ∧ K.ext f args h = some (v, h') ∧ Q v h'
theorem CallC.mono {r : R} {Q Q' : AV → H → Prop} (hc : CallC P r Q) (hq : ∀ v h, Q v h → Q' v h) : CallC P r Q' := by
  rcases hc with hc | ⟨f, args, h, K, v, h', e1, e2, e3, e4⟩
  · exact .inl (hc.mono P hq)
  · exact .inr ⟨f, args, h, K, v, h', e1, e2, e3, hq _ _ e4⟩
theorem CallC.of_hook {K : Hook} (hK : HookOk P K) {f : FuncId} {args : List AV} {h h' : H} {v : AV} {Q : AV → H → Prop} (hk : K.call f args h = some (v, h')) (hq : Q v h') : CallC P (.enter f args h) Q :=
  .inr ⟨f, args, h, K, v, h', rfl, hK, hk, hq⟩
def exW (r : R) (K : AV → H → Prop) : Prop :=
  match r with
  | .val v h => K v h
  | .skip h => K und h
  | .enter f args h => CallC P (.enter f args h) K
  | .round l args h => CallC P (.round l args h) K
  | .ext f args h => ExtC P f args h K
  | _ => False
@[simp] theorem exW_val (v : AV) (h : H) (K : AV → H → Prop) : exW P (.val v h) K = K v h := id rfl
@[simp] theorem exW_skip (h : H) (K : AV → H → Prop) : exW P (.skip h) K = K und h := id rfl
@[simp] theorem exW_enter (f : FuncId) (args : List AV) (h : H) (K : AV → H → Prop) : exW P (.enter f args h) K = CallC P (.enter f args h) K := id rfl
@[simp] theorem exW_round (l : Nat) (args : List AV) (h : H) (K : AV → H → Prop) : exW P (.round l args h) K = CallC P (.round l args h) K := id rfl
@[simp] theorem exW_ext (f : FuncId) (args : List AV) (h : H) (K : AV → H → Prop) : exW P (.ext f args h) K = ExtC P f args h K := id rfl
def wantW (tm : T AV) (ops : Array Oper) (g : Option (Nat × Bool)) (p q : Prop) : Prop :=
  match g with
  | none => p
  | some (j, want) => match dstOf ops j with
    | some d => match tm.get d with
      | some (.bool b) => ifB (b == want) p q
      | some (.tuple []) => q
      | _ => False
    | none => False
@[simp] theorem wantW_none (tm : T AV) (ops : Array Oper) (p q : Prop) : wantW tm ops none p q = p := rfl
def opsW (nt : Nat) (ops : Array Oper) : List Oper → T AV → H → (T AV → H → Prop) → Prop
  | [], tm, h, Q => Q tm h
  | o :: l, tm, h, Q => wantW tm ops o.guard (exW P (execA P tm h o.op) fun v h => opsW nt ops l (putT nt tm o.dst v) h Q) (opsW nt ops l (putT nt tm o.dst und) h Q)
def opK (nt : Nat) (ops : Array Oper) (d : Option Tmp) (l : List Oper) (tm : T AV) (Q : T AV → H → Prop) (v : AV) (h : H) : Prop := opsW P nt ops l (putT nt tm d v) h Q
theorem opsW_nil (nt : Nat) (ops : Array Oper) (tm : T AV) (h : H) (Q : T AV → H → Prop) : opsW P nt ops [] tm h Q = Q tm h := id rfl
theorem opsW_cons (nt : Nat) (ops : Array Oper) (o : Oper) (l : List Oper) (tm : T AV) (h : H) (Q : T AV → H → Prop) :
    opsW P nt ops (o :: l) tm h Q = wantW tm ops o.guard (exW P (execA P tm h o.op) (opK P nt ops o.dst l tm Q)) (opK P nt ops o.dst l tm Q und h) := rfl
def drawW (nt : Nat) (ops : Array Oper) : List (Nat × Oper) → List (Nat × Oper × Nat) → T AV → H → (T AV → H → Prop) → Prop
  | [], early, tm, h, Q => earlyOk P nt tm h ops early = true ∧ Q tm h
  | (i, o) :: rem, early, tm, h, Q =>
    match isAlloc o with
    | true => match fresh1 P (mini tm (slotsOf ops o)) o.op with
      | some (t, l) => drawW nt ops rem ((i, o, h.nx) :: early) (putT nt tm o.dst (.ptr h.nx 0)) (h.newCells t l) Q
      | none => False
    | false => match readVal P tm h ops o with
      | some v => drawW nt ops rem ((i, o, 0) :: early) (putT nt tm o.dst v) h Q
      | none => match isFl o && !chainB i [i] rem with
        | true => isRead o.op = false ∧ wantedD (mini tm (slotsOf ops o)) ops o = true ∧ match fresh2 P (mini tm (slotsOf ops o)) o.op with
          | some (t, l, n) => drawW nt ops rem ((i, o, h.nx) :: early) (putT nt tm o.dst (.slice h.nx 0 n (.exact n))) (h.newCells t l) Q
          | none => False
        | false => isRead o.op = false ∧ chainB i [i] rem = true ∧ earlyOk P nt tm h ops early = true ∧ dstOk nt o.dst = true ∧
          exW P (execD P tm h ops o) fun v h => drawW nt ops rem (dropF (edgesOf o.after.toList) early) (putT nt tm o.dst v) h Q
inductive Out where
  | norm
  | exit (id : Nat)
  | ret
abbrev KQ := Out → List Nat → T AV → H → Prop
def seqK (f : List Nat → T AV → H → Prop) (Q : KQ) : KQ := fun o ds tm h =>
  match o with
  | .norm => f ds tm h
  | .exit id => Q (.exit id) ds tm h
  | .ret => Q .ret ds tm h
def blkK (id : Nat) (Q : KQ) : KQ := fun o ds tm h =>
  match o with
  | .norm => Q .norm ds tm h
  | .exit i => match Nat.beq i id with
    | true => Q .norm ds tm h
    | false => Q (.exit i) ds tm h
  | .ret => Q .ret ds tm h
def loopK (Inv : Nat → List Nat → T AV → H → Prop) (n : Nat) (Q : KQ) : KQ := fun o ds tm h =>
  match o with
  | .norm => ∃ m, m < n ∧ Inv m ds tm h
  | .exit i => Q (.exit i) ds tm h
  | .ret => Q .ret ds tm h
def condW (v : Option AV) (p q : Prop) : Prop :=
  match v with
  | some (.bool b) => ifB b p q
  | _ => False
@[simp] theorem condW_bool (b : Bool) (p q : Prop) : condW (some (.bool b)) p q = ifB b p q := id rfl
def loopObj (fn nt : Nat) (tm : T AV) (params : Array Tmp) (a b : Code) (D : Nat) (st : LoopState) (pend : Option Code) : AObj :=
  .loop { state := st, pending := pend, fn, nt, tm, params := params.toList, assign := a, body := b, defers := D }
def rfEnd (l : Nat) (ds : List Nat) (tm : T AV) (Q : KQ) (h : H) : Prop :=
  match h.t.get l with
  | some (.loop r) => match r.state with
    | .busy => False
    | _ => match r.pending with
      | none => Q .norm ds tm { h with t := h.t.set l (some (.loop { r with state := .exhausted })) }
      | some (.exit i) => Q (.exit i) ds tm { h with t := h.t.set l (some (.loop { r with state := .exhausted })) }
      | some .ret => Q .ret ds tm { h with t := h.t.set l (some (.loop { r with state := .exhausted })) }
      | some _ => False
  | _ => False
def rfCall (r : R) (K : H → Prop) : Prop :=
  match r with
  | .enter f args h => PushC P (.enter f args h) fun _ h => K h
  | _ => False
def rfW (fn : FuncId) (nt : Nat) (ro : Option Nat) (f : Operand) (params : Array Tmp) (a b : Code) (ds : List Nat) (tm : T AV) (h : H) (Q : KQ) : Prop :=
  match evalA tm f with
  | some fv => match ro with
    | none => rfCall P (callV P fv [.yield (h.nx + 1)] ((h.alloc (.deferred (some []))).alloc (loopObj fn nt tm params a b h.nx .ready none))) (rfEnd (h.nx + 1) (h.nx :: ds) tm Q)
    | some l0 => match h.t.get l0 with
      | some (.loop r) => rfCall P (callV P fv [.yield h.nx] (h.alloc (loopObj fn nt tm params a b r.defers .ready none))) (rfEnd h.nx ds tm Q)
      | _ => False
  | none => False
def pickW (nt : Nat) (ops : Array Oper) (l : List Oper) (tm : T AV) (h : H) (Q : T AV → H → Prop) : Prop :=
  match l with
  | [] => False
  | o :: l => o.guard = none ∧ ∃ L, pickA tm h o.op = some L ∧ ∀ y, y ∈ L → opsW P nt ops l (putT nt tm o.dst y.1) y.2 Q
def codeW (fn : FuncId) (nt : Nat) (ro : Option Nat) : Code → List Nat → T AV → H → KQ → Prop
  | .skip, ds, tm, h, Q => Q .norm ds tm h
  | .label _, ds, tm, h, Q => Q .norm ds tm h
  | .seq a b, ds, tm, h, Q => codeW fn nt ro a ds tm h (seqK (fun ds tm h => codeW fn nt ro b ds tm h Q) Q)
  | .region _ ops draw, ds, tm, h, Q => match draw with
    | false => opsW P nt ops ops.toList tm h (Q .norm ds) ∨ pickW P nt ops ops.toList tm h (Q .norm ds)
    | true => match P.follows .mixedOrders, drawA ops with
      | true, some d => drawW P nt d.ops d.rem [] tm h (Q .norm ds)
      | _, _ => False
  | .cond c a b, ds, tm, h, Q => condW (evalA tm c) (codeW fn nt ro a ds tm h Q) (codeW fn nt ro b ds tm h Q)
  | .block id c, ds, tm, h, Q => codeW fn nt ro c ds tm h (blkK id Q)
  | .loop c, ds, tm, h, Q => ∃ (Inv : Nat → List Nat → T AV → H → Prop) (n : Nat), Inv n ds tm h ∧ ∀ n ds tm h, Inv n ds tm h → codeW fn nt ro c ds tm h (loopK Inv n Q)
  | .scope c, ds, tm, h, Q => codeW fn nt ro c ds tm h Q
  | .exit id, ds, tm, h, Q => Q (.exit id) ds tm h
  | .ret, ds, tm, h, Q => Q .ret ds tm h
  | .rangeFunc f params a b, ds, tm, h, Q => rfW P fn nt ro f params a b ds tm h Q
  | .goto _, _, _, _, _ => False
  | .refuse _, _, _, _, _ => False
end
section
variable {P : Program}
def Back (P : Program) (G : S → Prop) : Prop := ∀ s T, Leads P s T → (∀ s', T s' → G s') → G s
theorem back_leads (T : S → Prop) : Back P (fun s => Leads P s T) := fun _ _ hl hk => hl.bind P hk
theorem Back.step {G : S → Prop} (hG : Back P G) {K : Hook} (hK : HookOk P K) {s s' : S} (h : stepA P K s = some s') (hg : G s') : G s := hG _ (fun x => x = s') (Leads.of_reach P (reach_one hK h) rfl) (fun _ e => by subst e; exact hg)
theorem Back.step0 {G : S → Prop} (hG : Back P G) {s s' : S} (h : stepA P noHook s = some s') (hg : G s') : G s := hG.step (noHook_ok P) h hg
abbrev mkF (fn nt : Nat) (kd : CallKind) (ro : Option Nat) (ds : List Nat) (tm : T AV) (todo : List AItem) : AFrame := ⟨fn, nt, tm, todo, ds.map .collected, .run, kd, ro, none⟩
theorem exW_apply {G : S → Prop} (hG : Back P G) {s : S} {r : R} {K : AV → H → Prop} (hx : exW P r K) (hfin : ∀ v, ∃ c', s.fr.finish v = some c') (hk : ∀ v h' c', s.fr.finish v = some c' → K v h' → G ⟨c', s.cs, h'⟩) :
    ∃ K0 s1, HookOk P K0 ∧ applyA P K0 s r = some s1 ∧ G s1 := by
  have hpush : ∀ {r : R}, (∀ s0, pushS P s.fr s.cs r = some s0 → applyA P noHook s r = some s0) → PushC P r K → ∃ K0 s1, HookOk P K0 ∧ applyA P K0 s r = some s1 ∧ G s1 := by
    intro r ha hc
    obtain ⟨s0, e, hl⟩ := hc s.fr s.cs hfin
    exact ⟨noHook, s0, noHook_ok P, ha _ e, hG _ _ hl (fun s' ⟨v, h', c', hq, hc', e'⟩ => by subst e'; exact hk _ _ _ hc' hq)⟩
  cases r with
  | val v h =>
    obtain ⟨c', hc'⟩ := hfin v
    exact ⟨noHook, _, noHook_ok P, by simp only [applyA, hc'], hk _ _ _ hc' hx⟩
  | skip h =>
    obtain ⟨c', hc'⟩ := hfin und
    exact ⟨noHook, _, noHook_ok P, by simp only [applyA, hc'], hk _ _ _ hc' hx⟩
  | enter f args h =>
    rcases hx with hx | ⟨f1, a1, h1, K1, v, h', e, hK, e2, hq⟩
    · refine hpush ?_ hx
      intro s0 h0
      simp only [pushS] at h0
      split at h0
      · rename_i fr hen
        cases h0
        simp only [applyA, noHook, hen]
      · cases h0
    · cases e
      obtain ⟨c', hc'⟩ := hfin v
      exact ⟨K1, _, hK, by simp only [applyA, e2, hc'], hk _ _ _ hc' hq⟩
  | round l args h =>
    rcases hx with hx | ⟨f1, a1, h1, K1, v, h', e, _⟩
    · refine hpush ?_ hx
      intro s0 h0
      simp only [pushS] at h0
      split at h0
      · rename_i r hr
        split at h0
        · rename_i tm htm
          cases h0
          simp only [applyA, hr, htm]
        · cases h0
      · cases h0
    · cases e
  | ext f args h =>
    obtain ⟨K1, v, h', hK, e2, hq⟩ := hx
    obtain ⟨c', hc'⟩ := hfin v
    exact ⟨K1, _, hK, by simp only [applyA, e2, hc'], hk _ _ _ hc' hq⟩
  | defer d h => exact absurd hx id
  | recover h => exact absurd hx id
  | panic v h => exact absurd hx id
  | fail => exact absurd hx id
theorem exW_applyD {G : S → Prop} (hG : Back P G) {s : S} {r : R} {K : AV → H → Prop} {d : Draw} {i : Nat} {o : Oper} {rem : List (Nat × Oper)} (hw : d.wait = false) (hx : exW P r K) (hd : dstOk s.fr.nt o.dst = true)
    (hk : ∀ v h', K v h' → G ⟨{ s.fr with tm := s.fr.putD o.dst v, dr := some { d with rem, early := dropF (edgesOf o.after.toList) d.early } }, s.cs, h'⟩) :
    ∃ K0 s1, HookOk P K0 ∧ applyD P K0 s d i o rem r = some s1 ∧ G s1 := by
  have hfin : ∀ v, ({ s.fr with dr := some { d with rem := (i, o) :: rem, early := dropF (edgesOf o.after.toList) d.early, wait := true } } : AFrame).finish v = some { s.fr with tm := s.fr.putD o.dst v, dr := some { d with rem, early := dropF (edgesOf o.after.toList) d.early } } := by
    intro v
    simp only [AFrame.finish, AFrame.finishD, hd, hw, AFrame.putD]
  have hpush : ∀ {r : R}, (∀ s0, pushS P { s.fr with dr := some { d with rem := (i, o) :: rem, early := dropF (edgesOf o.after.toList) d.early, wait := true } } s.cs r = some s0 → applyD P noHook s d i o rem r = some s0) → PushC P r K →
      ∃ K0 s1, HookOk P K0 ∧ applyD P K0 s d i o rem r = some s1 ∧ G s1 := by
    intro r ha hc
    obtain ⟨s0, e, hl⟩ := hc { s.fr with dr := some { d with rem := (i, o) :: rem, early := dropF (edgesOf o.after.toList) d.early, wait := true } } s.cs (fun v => ⟨_, hfin v⟩)
    exact ⟨noHook, s0, noHook_ok P, ha _ e, hG _ _ hl (fun s' ⟨v, h', c', hq, hc', e'⟩ => by subst e'; rw [hfin] at hc'; cases hc'; exact hk _ _ hq)⟩
  cases r with
  | val v h => exact ⟨noHook, _, noHook_ok P, by simp only [applyD, hd], hk _ _ hx⟩
  | skip h => exact ⟨noHook, _, noHook_ok P, by simp only [applyD, hd], hk _ _ hx⟩
  | enter f args h =>
    rcases hx with hx | ⟨f1, a1, h1, K1, v, h', e, hK, e2, hq⟩
    · refine hpush ?_ hx
      intro s0 h0
      simp only [pushS] at h0
      split at h0
      · rename_i fr hen
        cases h0
        simp only [applyD, noHook, hen]
      · cases h0
    · cases e
      exact ⟨K1, _, hK, by simp only [applyD, e2, hd], hk _ _ hq⟩
  | round l args h =>
    rcases hx with hx | ⟨f1, a1, h1, K1, v, h', e, _⟩
    · refine hpush ?_ hx
      intro s0 h0
      simp only [pushS] at h0
      split at h0
      · rename_i r hr
        split at h0
        · rename_i tm htm
          cases h0
          simp only [applyD, hr, htm]
        · cases h0
      · cases h0
    · cases e
  | ext f args h =>
    obtain ⟨K1, v, h', hK, e2, hq⟩ := hx
    exact ⟨K1, _, hK, by simp only [applyD, e2, hd], hk _ _ hq⟩
  | defer d h => exact absurd hx id
  | recover h => exact absurd hx id
  | panic v h => exact absurd hx id
  | fail => exact absurd hx id
section
variable {G : S → Prop} {fn nt : Nat} {kd : CallKind} {ro : Option Nat} {ds : List Nat} {cs : List AFrame}
theorem opsW_sound (hG : Back P G) {ops : Array Oper} {k : List AItem} {Q : T AV → H → Prop} : ∀ {l : List Oper} {tm : T AV} {h : H}, opsW P nt ops l tm h Q → (∀ tm h, Q tm h → G ⟨mkF fn nt kd ro ds tm k, cs, h⟩) →
    G ⟨mkF fn nt kd ro ds tm (.ops ops l :: k), cs, h⟩
  | [], tm, h, hw, hq => hG.step0 rfl (hq _ _ hw)
  | o :: l, tm, h, hw, hq => by
    rw [opsW_cons] at hw
    have hfin : ∀ v, (mkF fn nt kd ro ds tm (.ops ops (o :: l) :: k)).finish v = some (mkF fn nt kd ro ds (putT nt tm o.dst v) (.ops ops l :: k)) := fun v => rfl
    have hgo : wantedA (mkF fn nt kd ro ds tm (.ops ops (o :: l) :: k)) ops o = true → exW P (execA P tm h o.op) (opK P nt ops o.dst l tm Q) → G ⟨mkF fn nt kd ro ds tm (.ops ops (o :: l) :: k), cs, h⟩ := by
      intro hwant hx
      obtain ⟨K0, s1, hK, ha, hg⟩ := exW_apply (s := ⟨mkF fn nt kd ro ds tm (.ops ops (o :: l) :: k), cs, h⟩) hG hx (fun v => ⟨_, hfin v⟩) (fun v h' c' hc' hv => by
        rw [hfin] at hc'; cases hc'
        exact opsW_sound hG hv hq)
      exact hG.step hK (by simp only [stepA, step1, hwant]; exact ha) hg
    have hno : wantedA (mkF fn nt kd ro ds tm (.ops ops (o :: l) :: k)) ops o = false → opK P nt ops o.dst l tm Q und h → G ⟨mkF fn nt kd ro ds tm (.ops ops (o :: l) :: k), cs, h⟩ := by
      intro hwant hx
      refine hG.step0 (s' := ⟨mkF fn nt kd ro ds (putT nt tm o.dst und) (.ops ops l :: k), cs, h⟩) (by simp only [stepA, step1, hwant]; rfl) (opsW_sound hG hx hq)
    unfold wantW at hw
    split at hw
    · rename_i hg
      exact hgo (by unfold wantedA; rw [hg]) hw
    · rename_i j want hg
      unfold dstOf at hw
      split at hw
      · rename_i d hd
        split at hw
        · rename_i b hb
          split at hd
          · rename_i oj hj
            have e : wantedA (mkF fn nt kd ro ds tm (.ops ops (o :: l) :: k)) ops o = (b == want) := by unfold wantedA; simp only [hg, hj, hd, hb]
            cases hbw : (b == want) with
            | true => exact hgo (e.trans hbw) (hw.1 hbw)
            | false => exact hno (e.trans hbw) (hw.2 hbw)
          · cases hd
        · rename_i hb
          split at hd
          · rename_i oj hj
            exact hno (by unfold wantedA; simp only [hg, hj, hd, hb]) hw
          · cases hd
        · exact absurd hw id
      · exact absurd hw id
theorem drawW_sound (hG : Back P G) {ops : Array Oper} {k : List AItem} {Q : T AV → H → Prop} : ∀ {rem : List (Nat × Oper)} {early : List (Nat × Oper × Nat)} {tm : T AV} {h : H}, drawW P nt ops rem early tm h Q →
    (∀ tm h, Q tm h → G ⟨mkF fn nt kd ro ds tm k, cs, h⟩) → G ⟨{ mkF fn nt kd ro ds tm k with dr := some ⟨ops, rem, early, false⟩ }, cs, h⟩
  | [], early, tm, h, hw, hq => hG.step0 (by simp only [stepA, stepD, hw.1]) (hq _ _ hw.2)
  | (i, o) :: rem, early, tm, h, hw, hq => by
    simp only [drawW] at hw
    split at hw
    · rename_i ha
      split at hw
      · rename_i t l hf
        exact hG.step0 (by simp only [stepA, stepD, ha, hf]; rfl) (drawW_sound hG hw hq)
      · exact absurd hw id
    · rename_i ha
      split at hw
      · rename_i v hv
        exact hG.step0 (by simp only [stepA, stepD, ha, hv]; rfl) (drawW_sound hG hw hq)
      · rename_i hv
        split at hw
        · rename_i hfl
          obtain ⟨h1, h2, hw⟩ := hw
          split at hw
          · rename_i t l n hf
            exact hG.step0 (by simp only [stepA, stepD, ha, hv, h1, hfl, h2, hf]; rfl) (drawW_sound hG hw hq)
          · exact absurd hw id
        rename_i hfl
        obtain ⟨h1, h2, h3, h4, h5⟩ := hw
        obtain ⟨K0, s1, hK, he, hg⟩ := exW_applyD (s := ⟨{ mkF fn nt kd ro ds tm k with dr := some ⟨ops, (i, o) :: rem, early, false⟩ }, cs, h⟩) (d := ⟨ops, (i, o) :: rem, early, false⟩) (i := i) (rem := rem) hG rfl h5 h4
          (fun v h' hv => drawW_sound hG hv hq)
        exact hG.step hK (by simp only [stepA, stepD, ha, hv, h1, h2, h3, Bool.not_true, Bool.and_false]; exact he) hg
theorem pickW_sound (hG : Back P G) {ops : Array Oper} {k : List AItem} {Q : T AV → H → Prop} {l : List Oper} {tm : T AV} {h : H} (hw : pickW P nt ops l tm h Q) (hq : ∀ tm h, Q tm h → G ⟨mkF fn nt kd ro ds tm k, cs, h⟩) :
    G ⟨mkF fn nt kd ro ds tm (.ops ops l :: k), cs, h⟩ := by
  cases l with
  | nil => exact absurd hw id
  | cons o l =>
    obtain ⟨hg, L, hL, hw⟩ := hw
    refine hG _ (fun s' => ∃ y, y ∈ L ∧ s' = ⟨mkF fn nt kd ro ds (putT nt tm o.dst y.1) (.ops ops l :: k), cs, y.2⟩) (fun N w0 bot φ fr cs' w hs => ?_) (fun s' ⟨y, hy, e⟩ => by subst e; exact opsW_sound hG (hw y hy) hq)
    obtain ⟨y, c', hy, hc', hgo⟩ := sim_pick (bot := bot) hs rfl rfl rfl (by unfold wantedA; rw [hg]) hL (fun v => ⟨_, rfl⟩)
    cases hc'
    exact ⟨_, ⟨y, hy, rfl⟩, hgo.n⟩
theorem codeW_sound (hG : Back P G) : ∀ (c : Code) (ds : List Nat) (tm : T AV) (h : H) (Q : KQ), codeW P fn nt ro c ds tm h Q → ∀ k : List AItem,
    (∀ ds tm h, Q .norm ds tm h → G ⟨mkF fn nt kd ro ds tm k, cs, h⟩) →
    (∀ i ds tm h k1, Q (.exit i) ds tm h → aExitTo i k1 = aExitTo i k → G ⟨mkF fn nt kd ro ds tm (.code (.exit i) :: k1), cs, h⟩) →
    (∀ ds tm h k1, Q .ret ds tm h → G ⟨mkF fn nt kd ro ds tm (.code .ret :: k1), cs, h⟩) → G ⟨mkF fn nt kd ro ds tm (.code c :: k), cs, h⟩ := by
  intro c
  induction c with
  | skip => intro ds tm h Q hw k hn he hr; exact hG.step0 rfl (hn _ _ _ hw)
  | label l => intro ds tm h Q hw k hn he hr; exact hG.step0 rfl (hn _ _ _ hw)
  | goto l => intro ds tm h Q hw; exact absurd hw id
  | refuse l => intro ds tm h Q hw; exact absurd hw id
  | exit id => intro ds tm h Q hw k hn he hr; exact he _ _ _ _ _ hw rfl
  | ret => intro ds tm h Q hw k hn he hr; exact hr _ _ _ _ hw
  | seq a b iha ihb =>
    intro ds tm h Q hw k hn he hr
    refine hG.step0 (s' := ⟨mkF fn nt kd ro ds tm (.code a :: .code b :: k), cs, h⟩) rfl ?_
    refine iha _ _ _ _ hw _ (fun ds tm h hq => ihb _ _ _ _ hq _ hn he hr) (fun i ds tm h k1 hq hk => he _ _ _ _ _ hq (by rw [hk]; rfl)) (fun ds tm h k1 hq => hr _ _ _ _ hq)
  | cond c a b iha ihb =>
    intro ds tm h Q hw k hn he hr
    simp only [codeW, condW] at hw
    split at hw
    · rename_i v t hv
      cases t with
      | true => exact hG.step0 (s' := ⟨mkF fn nt kd ro ds tm (.code a :: k), cs, h⟩) (by simp only [stepA, step1, hv]; rfl) (iha _ _ _ _ (hw.1 rfl) _ hn he hr)
      | false => exact hG.step0 (s' := ⟨mkF fn nt kd ro ds tm (.code b :: k), cs, h⟩) (by simp only [stepA, step1, hv]; rfl) (ihb _ _ _ _ (hw.2 rfl) _ hn he hr)
    · exact absurd hw id
  | block id c ih =>
    intro ds tm h Q hw k hn he hr
    refine hG.step0 (s' := ⟨mkF fn nt kd ro ds tm (.code c :: .inBlock id :: k), cs, h⟩) rfl ?_
    refine ih _ _ _ _ hw _ (fun ds tm h hq => hG.step0 rfl (hn _ _ _ hq)) (fun i ds tm h k1 hq hk => ?_) (fun ds tm h k1 hq => hr _ _ _ _ hq)
    simp only [blkK] at hq
    simp only [aExitTo] at hk
    split at hq
    · rename_i hb
      have := Nat.eq_of_beq_eq_true hb; subst this
      rw [Nat.beq_refl] at hk
      refine hG.step0 (s' := ⟨mkF fn nt kd ro ds tm k, cs, h⟩) (by simp only [stepA, step1, hk]; rfl) (hn _ _ _ hq)
    · rename_i hb
      have e : Nat.beq id i = false := by
        cases hc : Nat.beq id i with
        | false => rfl
        | true => have := Nat.eq_of_beq_eq_true hc; subst this; rw [Nat.beq_refl] at hb; cases hb
      rw [e] at hk
      exact he _ _ _ _ _ hq hk
  | loop c ih =>
    intro ds tm h Q hw k hn he hr
    refine hG.step0 (s' := ⟨mkF fn nt kd ro ds tm (.code c :: .inLoop c :: k), cs, h⟩) rfl ?_
    obtain ⟨Inv, n, hI, hstep⟩ := hw
    induction n using Nat.strongRecOn generalizing ds tm h with
    | ind n ihn =>
      refine ih _ _ _ _ (hstep n _ _ _ hI) _ (fun ds tm h hq => ?_) (fun i ds tm h k1 hq hk => he _ _ _ _ _ hq (by rw [hk]; rfl)) (fun ds tm h k1 hq => hr _ _ _ _ hq)
      obtain ⟨m, hm, hI'⟩ := hq
      exact hG.step0 (s' := ⟨mkF fn nt kd ro ds tm (.code c :: .inLoop c :: k), cs, h⟩) rfl (ihn m hm _ _ _ hI')
  | scope c ih =>
    intro ds tm h Q hw k hn he hr
    refine hG.step0 (s' := ⟨mkF fn nt kd ro ds tm (.code c :: .inScope c :: k), cs, h⟩) rfl ?_
    exact ih _ _ _ _ hw _ (fun ds tm h hq => hG.step0 rfl (hn _ _ _ hq)) (fun i ds tm h k1 hq hk => he _ _ _ _ _ hq (by rw [hk]; rfl)) (fun ds tm h k1 hq => hr _ _ _ _ hq)
  | region id ops draw =>
    intro ds tm h Q hw k hn he hr
    cases draw with
    | false => exact hG.step0 (s' := ⟨mkF fn nt kd ro ds tm (.ops ops ops.toList :: k), cs, h⟩) rfl (hw.elim (fun hw => opsW_sound hG hw fun tm h hq => hn _ _ _ hq) (fun hw => pickW_sound hG hw fun tm h hq => hn _ _ _ hq))
    | true =>
      simp only [codeW] at hw
      split at hw
      · rename_i d hm hd
        have hd' : d = ⟨d.ops, d.rem, [], false⟩ ∧ d.ops = ops := by
          unfold drawA at hd
          simp only at hd
          split at hd
          · cases hd; exact ⟨rfl, rfl⟩
          · cases hd
        refine hG.step0 (s' := ⟨{ mkF fn nt kd ro ds tm k with dr := some d }, cs, h⟩) (by simp only [stepA, step1, hm, hd]) ?_
        rw [hd'.1]
        exact drawW_sound hG hw fun tm h hq => hn _ _ _ hq
      · exact absurd hw _root_.id
  | rangeFunc f params a b _ _ =>
    intro ds tm h Q hw k hn he hr
    have hend : ∀ (l : Nat) (ds : List Nat) (h : H), rfEnd l ds tm Q h → G ⟨mkF fn nt kd ro ds tm (.endRangeFunc l :: k), cs, h⟩ := by
      intro l ds h hx
      unfold rfEnd at hx
      split at hx
      · rename_i r hl
        split at hx
        · exact absurd hx id
        · rename_i hst
          split at hx
          · rename_i hp
            refine hG.step0 ?_ (hn _ _ _ hx)
            simp only [stepA, step1, hl, hp]
          · rename_i i hp
            refine hG.step0 ?_ (he _ _ _ _ k hx rfl)
            simp only [stepA, step1, hl, hp]
          · rename_i hp
            refine hG.step0 ?_ (hr _ _ _ k hx)
            simp only [stepA, step1, hl, hp]
          · exact absurd hx id
      · exact absurd hx id
    simp only [codeW, rfW] at hw
    split at hw
    · rename_i fv hfv
      cases ro with
      | none =>
        simp only at hw
        unfold rfCall at hw
        split at hw
        · rename_i g args h2 hcv
          obtain ⟨s0, hp, hl⟩ := hw (mkF fn nt kd none (h.nx :: ds) tm (.inRangeFunc (h.nx + 1) :: k)) cs (fun v => ⟨_, rfl⟩)
          simp only [pushS] at hp
          split at hp
          · rename_i fr hen
            cases hp
            refine hG.step0 (s' := ⟨fr, mkF fn nt kd none (h.nx :: ds) tm (.inRangeFunc (h.nx + 1) :: k) :: cs, h2⟩) ?_ (hG _ _ hl (fun s' ⟨v, h', c', hx, hc', e'⟩ => by subst e'; cases hc'; exact hend _ _ _ hx))
            simp only [stepA, step1, enterLoopA, hfv]
            simp only [loopObj, H.alloc] at hcv
            simp only [H.alloc, hcv, hen]
            rfl
          · cases hp
        · exact absurd hw id
      | some l0 =>
        simp only at hw
        split at hw
        · rename_i r hl0
          unfold rfCall at hw
          split at hw
          · rename_i g args h2 hcv
            obtain ⟨s0, hp, hl⟩ := hw (mkF fn nt kd (some l0) ds tm (.inRangeFunc h.nx :: k)) cs (fun v => ⟨_, rfl⟩)
            simp only [pushS] at hp
            split at hp
            · rename_i fr hen
              cases hp
              refine hG.step0 (s' := ⟨fr, mkF fn nt kd (some l0) ds tm (.inRangeFunc h.nx :: k) :: cs, h2⟩) ?_ (hG _ _ hl (fun s' ⟨v, h', c', hx, hc', e'⟩ => by subst e'; cases hc'; exact hend _ _ _ hx))
              simp only [stepA, step1, enterLoopA, hfv, hl0]
              simp only [loopObj, H.alloc] at hcv
              simp only [H.alloc, hcv, hen]
              rfl
            · cases hp
          · exact absurd hw id
        · exact absurd hw id
    · exact absurd hw id
end
end
end
end Go.AX

namespace Go.AX
noncomputable section
open Go.RowKit
section
variable (P : Program)
def undef (h : H) : List Nat → Option H
  | [] => some h
  | d :: ds => match h.t.get d with
    | some (.deferred (some [])) => undef { h with t := h.t.set d (some (.deferred none)) } ds
    | _ => none
def retK (fn : Func) (Q : AV → H → Prop) : KQ := fun o ds tm h =>
  match o with
  | .exit _ => False
  | _ => ∃ h2, undef h ds = some h2 ∧ ∃ v, resA P fn tm h2 = some v ∧ Q v h2
@[simp] theorem undef_nil (h : H) : undef h [] = some h := rfl
@[simp] theorem retK_exit (fn : Func) (Q : AV → H → Prop) (i : Nat) (ds : List Nat) (tm : T AV) (h : H) : retK P fn Q (.exit i) ds tm h = False := rfl
theorem retK_norm (fn : Func) (Q : AV → H → Prop) (ds : List Nat) (tm : T AV) (h : H) : retK P fn Q .norm ds tm h = ∃ h2, undef h ds = some h2 ∧ ∃ v, resA P fn tm h2 = some v ∧ Q v h2 := rfl
theorem retK_ret (fn : Func) (Q : AV → H → Prop) (ds : List Nat) (tm : T AV) (h : H) : retK P fn Q .ret ds tm h = ∃ h2, undef h ds = some h2 ∧ ∃ v, resA P fn tm h2 = some v ∧ Q v h2 := rfl
def roundEnd (l : Nat) (Q : AV → H → Prop) : KQ := fun o _ _ h =>
  match h.t.get l with
  | some (.loop r) => match o with
    | .norm => Q (.bool true) { h with t := h.t.set l (some (.loop { r with state := .ready, pending := none })) }
    | .exit i => Q (.bool false) { h with t := h.t.set l (some (.loop { r with state := .done, pending := some (.exit i) })) }
    | .ret => Q (.bool false) { h with t := h.t.set l (some (.loop { r with state := .done, pending := some .ret })) }
  | _ => False
def roundK (fn nt : Nat) (l : Nat) (Q : AV → H → Prop) : KQ := fun o ds tm h =>
  match o with
  | .norm => match h.t.get l with
    | some (.loop r) => match r.state with
      | .ready => codeW P fn nt (some l) r.body ds tm { h with t := h.t.set l (some (.loop { r with state := .busy })) } (roundEnd l Q)
      | _ => False
    | _ => False
  | _ => False
end
section
variable {P : Program}
theorem unwind_sound {G : S → Prop} (hG : Back P G) {fn nt : Nat} {tm : T AV} {k : List AItem} {cs : List AFrame} : ∀ {ds : List Nat} {h h2 : H}, undef h ds = some h2 →
    G ⟨⟨fn, nt, tm, k, [], .returning, .normal, none, none⟩, cs, h2⟩ → G ⟨⟨fn, nt, tm, k, ds.map .collected, .returning, .normal, none, none⟩, cs, h⟩
  | [], h, h2, hu, hg => by cases hu; exact hg
  | d :: ds, h, h2, hu, hg => by
    simp only [undef] at hu
    split at hu
    · rename_i hd
      refine hG.step0 ?_ (unwind_sound hG hu hg)
      simp only [stepA, step1, unwindA, List.map_cons, hd, List.nil_append]
    · cases hu
theorem ret_sound {G : S → Prop} (hG : Back P G) {f nt : Nat} {fn : Func} {Q : AV → H → Prop} {cs : List AFrame} (hend : ∀ tm k h2 v, resA P fn tm h2 = some v → Q v h2 → G ⟨⟨f, nt, tm, k, [], .returning, .normal, none, none⟩, cs, h2⟩)
    {c : Code} {tm : T AV} {h : H} (hw : codeW P f nt none c [] tm h (retK P fn Q)) : G ⟨mkF f nt .normal none [] tm [.code c], cs, h⟩ := by
  refine codeW_sound hG c _ _ _ _ hw [] (fun ds tm h hq => ?_) (fun i ds tm h k1 hq => absurd hq id) (fun ds tm h k1 hq => ?_)
  · obtain ⟨h2, hu, v, hv, hq⟩ := hq
    exact hG.step0 (s' := ⟨⟨f, nt, tm, [], ds.map .collected, .returning, .normal, none, none⟩, cs, h⟩) rfl (unwind_sound hG hu (hend _ _ _ _ hv hq))
  · obtain ⟨h2, hu, v, hv, hq⟩ := hq
    exact hG.step0 (s' := ⟨⟨f, nt, tm, .code .ret :: k1, ds.map .collected, .returning, .normal, none, none⟩, cs, h⟩) rfl (unwind_sound hG hu (hend _ _ _ _ hv hq))
theorem enterA_eq {f : FuncId} {fn : Func} {c : Code} {args : List AV} (hf : P.funcs[f]? = some fn) (hb : fn.body = some c) :
    enterA P f args .normal = some (mkF f (Nat.max args.length fn.ntmps) .normal none [] (T.fill .e 0 args) [.code c]) := by
  simp only [enterA, hf, hb]; rfl
theorem pushC_of_codeW {f : FuncId} {fn : Func} {c : Code} {args : List AV} {h : H} {Q : AV → H → Prop} (hf : P.funcs[f]? = some fn) (hb : fn.body = some c)
    (hw : codeW P f (Nat.max args.length fn.ntmps) none c [] (T.fill .e 0 args) h (retK P fn Q)) : PushC P (.enter f args h) Q := by
  intro b cs hfin
  have hgo := ret_sound (cs := b :: cs) (back_leads (P := P) (BackAt b cs Q)) (fun tm k h2 v hv hq => by
    obtain ⟨c', hc⟩ := hfin v
    exact Leads.of_reach P (reach_one (noHook_ok P) (by simp only [stepA, step1, unwindA, hf, hv, doRet, hc])) ⟨v, h2, c', hq, hc, rfl⟩) hw
  exact ⟨_, by simp only [pushS, enterA_eq hf hb], hgo⟩
theorem pushC_round {l : Nat} {args : List AV} {h : H} {r : ALoop} {tm : T AV} {Q : AV → H → Prop} (hl : h.t.get l = some (.loop r)) (hp : setParams r.nt r.tm r.params args = some tm)
    (hw : codeW P r.fn r.nt (some l) r.assign [] tm h (fun o ds tm h => match o with
      | .norm => ds = [] ∧ ∃ r', h.t.get l = some (.loop r') ∧ r'.state = .ready ∧ codeW P r.fn r.nt (some l) r.body [] tm { h with t := h.t.set l (some (.loop { r' with state := .busy })) } (roundEnd l Q)
      | _ => False)) : PushC P (.round l args h) Q := by
  intro b cs hfin
  have hG := back_leads (P := P) (BackAt b cs Q)
  refine ⟨⟨mkF r.fn r.nt .normal (some l) [] tm [.code r.assign, .beginRound, .code r.body], b :: cs, h⟩, ?_⟩
  have hgo := codeW_sound (kd := .normal) (cs := b :: cs) hG r.assign _ _ _ _ hw [.beginRound, .code r.body] (fun ds tm h hq => ?_) (fun i ds tm h k1 hq => absurd hq id) (fun ds tm h k1 hq => absurd hq id)
  · exact ⟨by simp only [pushS, hl, hp]; rfl, hgo⟩
  · simp only at hq
    obtain ⟨rfl, r', hl', hst, hbody⟩ := hq
    refine hG.step0 (s' := ⟨mkF r.fn r.nt .normal (some l) [] tm [.code r.body], b :: cs, { h with t := h.t.set l (some (.loop { r' with state := .busy })) }⟩) (by simp only [stepA, step1, hl', hst]) ?_
    refine codeW_sound (kd := .normal) (cs := b :: cs) hG r.body _ _ _ _ hbody [] (fun ds tm h hq => ?_) (fun i ds tm h k1 hq hk1 => ?_) (fun ds tm h k1 hq => ?_)
    · unfold roundEnd at hq
      split at hq
      · rename_i r2 hl2
        obtain ⟨c', hc⟩ := hfin _
        exact Leads.of_reach P (reach_one (noHook_ok P) (by simp only [stepA, step1, leaveA, hl2, doRet, Option.isNone, hc, endSt])) ⟨_, _, c', hq, hc, rfl⟩
      · exact absurd hq id
    · unfold roundEnd at hq
      split at hq
      · rename_i r2 hl2
        have hx : aExitTo i k1 = none := hk1
        obtain ⟨c', hc⟩ := hfin _
        exact Leads.of_reach P (reach_one (noHook_ok P) (by simp only [stepA, step1, hx, leaveA, hl2, doRet, Option.isNone, hc, endSt])) ⟨_, _, c', hq, hc, rfl⟩
      · exact absurd hq id
    · unfold roundEnd at hq
      split at hq
      · rename_i r2 hl2
        obtain ⟨c', hc⟩ := hfin _
        exact Leads.of_reach P (reach_one (noHook_ok P) (by simp only [stepA, step1, leaveA, hl2, doRet, Option.isNone, hc, endSt])) ⟨_, _, c', hq, hc, rfl⟩
      · exact absurd hq id
theorem calls_of_codeW {f : FuncId} {fn : Func} {c : Code} {args : List AV} {h : H} {Q : AV → H → Prop} (hf : P.funcs[f]? = some fn) (hb : fn.body = some c)
    (hw : codeW P f (Nat.max args.length fn.ntmps) none c [] (T.fill .e 0 args) h (retK P fn Q)) {N : NN} {φ : Phi} {w : World} {cargs : Array Value} (hr : HR N φ h w) (hN : N.n ≤ w.heap.size) (ha : All2 (VR φ) args cargs.toList) :
    Calls P f cargs w fun e w' => ∃ N' : NN, ∃ φ' cv v h', N'.n = N.n ∧ e = .returned cv ∧ Q v h' ∧ φ.le φ' ∧ VR φ' v cv ∧ HR N' φ' h' w' ∧ Below N.n w w' := by
  have hgo := ret_sound (cs := []) (back_leads (P := P) (fun s1 => ∃ v h', Q v h' ∧ runA P noHook f 1 s1 = some (v, h'))) (fun tm k h2 v hv hq =>
    Leads.of_reach P (Reach.refl _) ⟨v, h2, hq, by simp [runA, doneA, hf, hv]⟩) hw
  intro bot
  have hen := enterA_eq (P := P) (args := args) hf hb
  have hsr : SR N w φ { fr := mkF f (Nat.max args.length fn.ntmps) .normal none [] (T.fill .e 0 args) [.code c], cs := [], h } (Frame.enter P f cargs .normal) [] w := ⟨.mk (enter_dr hen) (enter_rel ha hen), rfl, hr, Below.refl _ _, hN⟩
  obtain ⟨s1, ⟨v, h', hq, hc⟩, N1, φ1, fr1, cs1, w1, e1, l1, st1, sr1⟩ := hgo N w bot φ _ _ w hsr
  obtain ⟨N', φ', fr', w', cv, e, l, st, hf', hl, hv, hh, hbl⟩ := sim_run (noHook_ok P) (bot := bot) 1 N1 φ1 _ _ _ w1 v h' sr1 hc
  exact ⟨.returned cv, w', fr', ⟨N', φ', cv, v, h', e.trans e1, rfl, hq, Phi.le_trans l1 l, hv, hh, by rw [← e1]; exact hbl⟩, Steps.trans st1 st, hf', hl⟩
end
end
end Go.AX

namespace Go.AX
noncomputable section
open Go.RowKit
def bodyC (fn : Func) : Code :=
  match fn.body with
  | some c => c
  | none => .skip
def codeI (c : Code) (rp : List Nat) : Code := codeIn c rp.reverse
def isSeq : Code → Bool
  | .seq _ _ => true
  | _ => false
def isCond : Code → Bool
  | .cond _ _ _ => true
  | _ => false
def condOp : Code → Operand
  | .cond c _ _ => c
  | _ => .const (.bool false)
def isBlock : Code → Bool
  | .block _ _ => true
  | _ => false
def blockId : Code → Nat
  | .block i _ => i
  | _ => 0
def isLoop : Code → Bool
  | .loop _ => true
  | _ => false
def isExit : Code → Bool
  | .exit _ => true
  | _ => false
def exitId : Code → Nat
  | .exit i => i
  | _ => 0
def isRetC : Code → Bool
  | .ret => true
  | _ => false
def isSkipC : Code → Bool
  | .skip => true
  | .label _ => true
  | _ => false
def isReg : Code → Bool
  | .region _ _ false => true
  | _ => false
def isScope : Code → Bool
  | .scope _ => true
  | _ => false
theorem codeIn_append : ∀ (p q : List Nat) (c : Code), codeIn (codeIn c p) q = codeIn c (p ++ q)
  | [], q, c => by cases c <;> rfl
  | i :: p, q, c => by
    cases c with
    | seq a b => cases i <;> exact codeIn_append p q _
    | cond x a b => cases i <;> exact codeIn_append p q _
    | rangeFunc f ps a b => cases i <;> exact codeIn_append p q _
    | block j a => exact codeIn_append p q a
    | loop a => exact codeIn_append p q a
    | scope a => exact codeIn_append p q a
    | _ => cases q <;> rfl
theorem codeI_cons (c : Code) (i : Nat) (rp : List Nat) : codeI c (i :: rp) = codeIn (codeI c rp) [i] := by
  unfold codeI; rw [codeIn_append, List.reverse_cons]
section
variable {P : Program}
def codeK (P : Program) (fn nt : Nat) (ro : Option Nat) (c : Code) (Q : KQ) (ds : List Nat) (tm : T AV) (h : H) : Prop := codeW P fn nt ro c ds tm h Q
theorem codeIn_nil (c : Code) : codeIn c [] = c := by cases c <;> rfl
variable {fn nt : Nat} {ro : Option Nat} {c : Code} {rp : List Nat} {ds : List Nat} {tm : T AV} {h : H} {Q : KQ}
theorem st_seq (hc : isSeq (codeI c rp) = true) (hw : codeW P fn nt ro (codeI c (0 :: rp)) ds tm h (seqK (codeK P fn nt ro (codeI c (1 :: rp)) Q) Q)) : codeW P fn nt ro (codeI c rp) ds tm h Q := by
  rw [codeI_cons, codeI_cons] at hw
  revert hc hw; generalize codeI c rp = c; intro hc hw
  cases c <;> first | (cases hc; done) | (simp only [codeIn, codeIn_nil] at hw; exact hw)
theorem st_block (hc : isBlock (codeI c rp) = true) {i : Nat} (hi : blockId (codeI c rp) = i) (hw : codeW P fn nt ro (codeI c (0 :: rp)) ds tm h (blkK i Q)) : codeW P fn nt ro (codeI c rp) ds tm h Q := by
  rw [codeI_cons] at hw
  revert hc hi hw; generalize codeI c rp = c; intro hc hi hw
  cases c <;> first | (cases hc; done) | (simp only [codeIn, codeIn_nil] at hw; cases hi; exact hw)
theorem st_scope (hc : isScope (codeI c rp) = true) (hw : codeW P fn nt ro (codeI c (0 :: rp)) ds tm h Q) : codeW P fn nt ro (codeI c rp) ds tm h Q := by
  rw [codeI_cons] at hw
  revert hc hw; generalize codeI c rp = c; intro hc hw
  cases c <;> first | (cases hc; done) | (simp only [codeIn, codeIn_nil] at hw; exact hw)
theorem st_cond (hc : isCond (codeI c rp) = true) {x : Operand} (hx : condOp (codeI c rp) = x)
    (hw : condW (evalA tm x) (codeW P fn nt ro (codeI c (0 :: rp)) ds tm h Q) (codeW P fn nt ro (codeI c (1 :: rp)) ds tm h Q)) : codeW P fn nt ro (codeI c rp) ds tm h Q := by
  rw [codeI_cons, codeI_cons] at hw
  revert hc hx hw; generalize codeI c rp = c; intro hc hx hw
  cases c <;> first | (cases hc; done) | (simp only [codeIn, codeIn_nil] at hw; cases hx; exact hw)
theorem st_skip (hc : isSkipC (codeI c rp) = true) (hw : Q .norm ds tm h) : codeW P fn nt ro (codeI c rp) ds tm h Q := by
  revert hc; generalize codeI c rp = c; intro hc
  cases c <;> first | (cases hc; done) | exact hw
theorem st_exit (hc : isExit (codeI c rp) = true) {i : Nat} (hi : exitId (codeI c rp) = i) (hw : Q (.exit i) ds tm h) : codeW P fn nt ro (codeI c rp) ds tm h Q := by
  revert hc hi; generalize codeI c rp = c; intro hc hi
  cases c <;> first | (cases hc; done) | (cases hi; exact hw)
theorem st_ret (hc : isRetC (codeI c rp) = true) (hw : Q .ret ds tm h) : codeW P fn nt ro (codeI c rp) ds tm h Q := by
  revert hc; generalize codeI c rp = c; intro hc
  cases c <;> first | (cases hc; done) | exact hw
theorem st_reg (hc : isReg (codeI c rp) = true) {ops : Array Oper} {l : List Oper} (ho : regionOf (codeI c rp) = ops) (hl : ops.toList = l) (hw : opsW P nt ops l tm h (Q .norm ds)) : codeW P fn nt ro (codeI c rp) ds tm h Q := by
  revert hc ho; generalize codeI c rp = c; intro hc ho
  cases c with
  | region i ops' d => cases d with
    | false => cases ho; cases hl; exact .inl hw
    | true => cases hc
  | _ => cases hc
theorem st_loop (Inv : Nat → List Nat → T AV → H → Prop) (n : Nat) (hc : isLoop (codeI c rp) = true) (h0 : Inv n ds tm h)
    (hw : ∀ n ds tm h, Inv n ds tm h → codeW P fn nt ro (codeI c (0 :: rp)) ds tm h (loopK Inv n Q)) : codeW P fn nt ro (codeI c rp) ds tm h Q := by
  simp only [codeI_cons] at hw
  revert hc hw; generalize codeI c rp = c; intro hc hw
  cases c <;> first | (cases hc; done) | (simp only [codeIn, codeIn_nil] at hw; exact ⟨Inv, n, h0, hw⟩)
theorem codeW_root (hw : codeW P fn nt ro (codeI c []) ds tm h Q) : codeW P fn nt ro c ds tm h Q := by
  have e : codeI c [] = c := codeIn_nil c
  rw [e] at hw; exact hw
theorem seqK_norm (f : List Nat → T AV → H → Prop) (Q : KQ) : seqK f Q .norm ds tm h = f ds tm h := id rfl
theorem seqK_exit (f : List Nat → T AV → H → Prop) (Q : KQ) (i : Nat) : seqK f Q (.exit i) ds tm h = Q (.exit i) ds tm h := id rfl
theorem seqK_ret (f : List Nat → T AV → H → Prop) (Q : KQ) : seqK f Q .ret ds tm h = Q .ret ds tm h := id rfl
theorem blkK_norm (i : Nat) (Q : KQ) : blkK i Q .norm ds tm h = Q .norm ds tm h := id rfl
theorem blkK_exit (i j : Nat) (Q : KQ) : blkK i Q (.exit j) ds tm h = if j = i then Q .norm ds tm h else Q (.exit j) ds tm h := by
  show (match Nat.beq j i with | true => _ | false => _) = _
  by_cases e : j = i
  · subst e; rw [Nat.beq_refl, if_pos rfl]
  · have : Nat.beq j i = false := by
      cases hb : Nat.beq j i with
      | false => rfl
      | true => exact absurd (Nat.eq_of_beq_eq_true hb) e
    rw [this, if_neg e]
theorem blkK_ret (i : Nat) (Q : KQ) : blkK i Q .ret ds tm h = Q .ret ds tm h := id rfl
theorem loopK_norm (Inv : Nat → List Nat → T AV → H → Prop) (n : Nat) (Q : KQ) : loopK Inv n Q .norm ds tm h = ∃ m, m < n ∧ Inv m ds tm h := id rfl
theorem loopK_exit (Inv : Nat → List Nat → T AV → H → Prop) (n : Nat) (Q : KQ) (i : Nat) : loopK Inv n Q (.exit i) ds tm h = Q (.exit i) ds tm h := id rfl
theorem loopK_ret (Inv : Nat → List Nat → T AV → H → Prop) (n : Nat) (Q : KQ) : loopK Inv n Q .ret ds tm h = Q .ret ds tm h := id rfl
theorem codeK_def (c : Code) : codeK P fn nt ro c Q ds tm h = codeW P fn nt ro c ds tm h Q := id rfl
def guardV (tm : T AV) (ops : Array Oper) (g : Nat × Bool) : Option Bool :=
  match dstOf ops g.1 with
  | some d => match tm.get d with
    | some (.bool b) => some (b == g.2)
    | some (.tuple []) => some false
    | _ => none
  | none => none
def gW (P : Program) (b : Option Bool) (nt : Nat) (ops : Array Oper) (o : Op) (d : Option Tmp) (l : List Oper) (tm : T AV) (h : H) (Q : T AV → H → Prop) : Prop :=
  match b with
  | some true => exW P (execA P tm h o) (opK P nt ops d l tm Q)
  | some false => opK P nt ops d l tm Q und h
  | none => False
theorem gW_true (nt : Nat) (ops : Array Oper) (o : Op) (d : Option Tmp) (l : List Oper) (Q : T AV → H → Prop) : gW P (some true) nt ops o d l tm h Q = exW P (execA P tm h o) (opK P nt ops d l tm Q) := id rfl
theorem gW_false (nt : Nat) (ops : Array Oper) (o : Op) (d : Option Tmp) (l : List Oper) (Q : T AV → H → Prop) : gW P (some false) nt ops o d l tm h Q = opK P nt ops d l tm Q und h := id rfl
theorem opsW_none (nt : Nat) (ops : Array Oper) (d : Option Tmp) (o : Op) (t : TypeId) (pos : String) (a : Array Edge) (l : List Oper) (Q : T AV → H → Prop) :
    opsW P nt ops ({ dst := d, op := o, type := t, pos := pos, after := a, guard := none } :: l) tm h Q = exW P (execA P tm h o) (opK P nt ops d l tm Q) := id rfl
theorem opsW_guard (nt : Nat) (ops : Array Oper) (d : Option Tmp) (o : Op) (t : TypeId) (pos : String) (a : Array Edge) (g : Nat × Bool) (l : List Oper) (Q : T AV → H → Prop) :
    opsW P nt ops ({ dst := d, op := o, type := t, pos := pos, after := a, guard := some g } :: l) tm h Q ↔ gW P (guardV tm ops g) nt ops o d l tm h Q := by
  rw [opsW_cons]
  obtain ⟨j, want⟩ := g
  unfold wantW guardV gW
  simp only
  cases dstOf ops j with
  | none => exact Iff.rfl
  | some d =>
    simp only
    cases tm.get d with
    | none => exact Iff.rfl
    | some v =>
      cases v with
      | bool b =>
        simp only
        cases hx : (b == want) <;> simp [ifB]
      | tuple l => cases l <;> exact Iff.rfl
      | _ => exact Iff.rfl
theorem opK_def (nt : Nat) (ops : Array Oper) (d : Option Tmp) (l : List Oper) (Q : T AV → H → Prop) (v : AV) : opK P nt ops d l tm Q v h = opsW P nt ops l (putT nt tm d v) h Q := id rfl
theorem putT_some (nt d : Nat) (v : AV) : putT nt tm (some d) v = if d < nt then tm.set d (some v) else tm := by
  unfold putT
  by_cases e : d < nt
  · have : Nat.blt d nt = true := by rw [Nat.blt_eq]; exact e
    simp only [this, if_pos e]
  · have : Nat.blt d nt = false := by rw [← Bool.not_eq_true, Nat.blt_eq]; exact e
    simp only [this, if_neg e]
theorem putT_no (nt : Nat) (v : AV) : putT nt tm none v = tm := id rfl
end
def cellAt (h : H) (b o : Nat) : Option AV :=
  match h.t.get b with
  | some (.cells _ cs _ _) => cs.get o
  | _ => none
def wrAt (h : H) (b : Nat) : Bool :=
  match h.t.get b with
  | some (.cells _ _ _ false) => true
  | _ => false
def setL (cs : T AV) (o : Nat) : List AV → T AV
  | [] => cs
  | v :: l => setL (cs.set o (some v)) (o + 1) l
def H.sts (h : H) (b o : Nat) (l : List AV) : H :=
  match h.t.get b with
  | some (.cells n cs k false) => { h with t := h.t.set b (some (.cells n (setL cs o l) k false)) }
  | _ => h
def hasAll (h : H) (b o : Nat) : Nat → Bool
  | 0 => true
  | k + 1 => (cellAt h b o).isSome && hasAll h b (o + 1) k
theorem hasAll_zero (h : H) (b o : Nat) : hasAll h b o 0 = true := id rfl
theorem hasAll_succ (h : H) (b o k : Nat) : hasAll h b o (k + 1) = ((cellAt h b o).isSome && hasAll h b (o + 1) k) := id rfl
theorem setL_get : ∀ (l : List AV) (cs : T AV) (o j : Nat), (setL cs o l).get j = if o ≤ j ∧ j < o + l.length then l[j - o]? else cs.get j
  | [], cs, o, j => by simp only [setL, List.length_nil]; rw [if_neg (by omega)]
  | v :: l, cs, o, j => by
    simp only [setL, setL_get l, T.get_set, List.length_cons]
    by_cases e : j = o
    · subst e; rw [if_neg (by omega), if_pos rfl, if_pos (by omega)]; simp
    · by_cases q : o + 1 ≤ j ∧ j < o + 1 + l.length
      · rw [if_pos q, if_pos (by omega), show j - o = (j - (o + 1)) + 1 by omega]; simp
      · rw [if_neg q, if_neg e, if_neg (by omega)]
theorem putCells_setL : ∀ (l : List AV) (cs : T AV) (o : Nat), allOne l = true → (∀ i, i < l.length → cs.get (o + i) ≠ none) → H.putCells cs o l = some (setL cs o l)
  | [], _, _, _, _ => rfl
  | v :: l, cs, o, ho, hc => by
    simp only [allOne] at ho
    split at ho
    · rename_i hv
      have h0 := hc 0 (by simp)
      simp only [Nat.add_zero] at h0
      cases hg : cs.get o with
      | none => exact absurd hg h0
      | some x =>
        simp only [H.putCells, hv, hg, setL]
        refine putCells_setL l _ _ ho (fun i hi => ?_)
        rw [T.get_set, if_neg (by omega), show o + 1 + i = o + (i + 1) by omega]
        exact hc _ (by simp only [List.length_cons]; omega)
    · cases ho
theorem putRow_short {cs : T AV} {o : Nat} {l : List AV} (hl : lenGe 300 l = false) : H.putRow cs o l = H.putCells cs o l := by
  unfold H.putRow
  split
  · simp only [hl, Bool.false_and]
  · rfl
theorem hasAll_get {h : H} {b : Nat} : ∀ {k o : Nat}, hasAll h b o k = true → ∀ i, i < k → cellAt h b (o + i) ≠ none
  | 0, _, _, i, hi => by omega
  | k + 1, o, hh, i, hi => by
    rw [hasAll_succ, Bool.and_eq_true] at hh
    cases i with
    | zero => intro e; rw [Nat.add_zero] at e; rw [e] at hh; cases hh.1
    | succ i => have := hasAll_get hh.2 i (by omega); rwa [show o + 1 + i = o + (i + 1) by omega] at this
theorem put_sts {h : H} {b o : Nat} {l : List AV} (hw : wrAt h b = true) (hc : hasAll h b o l.length = true) (ho : allOne l = true) (hl : lenGe 300 l = false) : h.put b o l = some (h.sts b o l) := by
  unfold wrAt at hw
  split at hw
  · rename_i n cs k hb
    have : H.putRow cs o l = some (setL cs o l) := by
      rw [putRow_short hl]
      refine putCells_setL l cs o ho (fun i hi => ?_)
      have := hasAll_get hc i hi
      unfold cellAt at this
      rwa [hb] at this
    unfold H.put H.sts
    simp only [hb, this]
  · cases hw
theorem cellAt_sts {h : H} {b o : Nat} {l : List AV} (hw : wrAt h b = true) (b' o' : Nat) : cellAt (h.sts b o l) b' o' = if b' = b ∧ o ≤ o' ∧ o' < o + l.length then l[o' - o]? else cellAt h b' o' := by
  unfold wrAt at hw
  split at hw
  · rename_i n cs k hb
    unfold H.sts cellAt
    simp only [hb, T.get_set]
    by_cases e : b' = b
    · subst e
      simp only [if_true, true_and, setL_get, hb]
    · simp only [e, if_false, false_and]
  · cases hw
theorem wrAt_sts (h : H) (b o : Nat) (l : List AV) (b' : Nat) : wrAt (h.sts b o l) b' = wrAt h b' := by
  unfold H.sts
  split
  · rename_i n cs k hb
    unfold wrAt
    simp only [T.get_set]
    by_cases e : b' = b
    · subst e; simp only [if_true, hb]
    · simp only [e, if_false]
  · rfl
theorem nx_sts (h : H) (b o : Nat) (l : List AV) : (h.sts b o l).nx = h.nx := by
  unfold H.sts; split <;> rfl
theorem get_sts (h : H) (b o : Nat) (l : List AV) {b' : Nat} (hb : b' ≠ b) : (h.sts b o l).t.get b' = h.t.get b' := by
  unfold H.sts; split
  · simp only [T.get_set, hb, if_false]
  · rfl
theorem cellAt_new (h : H) (t : TypeId) (l : List AV) (b o : Nat) : cellAt (h.newCells t l) b o = if b = h.nx then l[o]? else cellAt h b o := by
  unfold cellAt H.newCells H.alloc
  simp only [T.get_set]
  by_cases e : b = h.nx
  · subst e; simp only [if_true, T.get_ofRow]
  · simp only [e, if_false]
theorem wrAt_new (h : H) (t : TypeId) (l : List AV) (b : Nat) : wrAt (h.newCells t l) b = if b = h.nx then true else wrAt h b := by
  unfold wrAt H.newCells H.alloc
  simp only [T.get_set]
  by_cases e : b = h.nx
  · subst e; simp only [if_true]
  · simp only [e, if_false]
theorem nx_new (h : H) (t : TypeId) (l : List AV) : (h.newCells t l).nx = h.nx + 1 := id rfl
theorem get_new (h : H) (t : TypeId) (l : List AV) {b : Nat} (hb : b ≠ h.nx) : (h.newCells t l).t.get b = h.t.get b := by
  unfold H.newCells H.alloc; simp only [T.get_set, hb, if_false]
def seqO : List (Option AV) → Option (List AV)
  | [] => some []
  | some v :: l => match seqO l with
    | some r => some (v :: r)
    | none => none
  | none :: _ => none
theorem row_seqO (h : H) (b : Nat) : ∀ (k o : Nat), H.row h b o (k + 1) = seqO ((List.range' o (k + 1)).map (cellAt h b)) := by
  unfold H.row cellAt
  cases hb : h.t.get b with
  | none => intro k o; rfl
  | some x =>
    cases x with
    | cells n cs esz ro =>
      simp only [loadRow_eq]
      have hz : ∀ (k o : Nat), H.loadCells cs o k = seqO ((List.range' o k).map fun o => cs.get o) := by
        intro k
        induction k with
        | zero => intro o; rfl
        | succ k ih =>
          intro o
          simp only [H.loadCells, List.range'_succ, List.map_cons, ih (o + 1)]
          cases cs.get o with
          | none => rfl
          | some v => simp only [seqO]; cases seqO _ <;> rfl
      exact fun k o => hz (k + 1) o
    | _ => intro k o; rfl
theorem loadV_one {P : Program} {t : TypeId} (ht : aggT P t = false) (h : H) (b o : Nat) : loadV P h t b o = cellAt h b o := by
  unfold loadV cellAt; rw [ht]; rfl
theorem loadV_agg {P : Program} {t : TypeId} {k : Nat} (ht : aggT P t = true) (hk : P.cellsOf t = k + 1) (h : H) (b o : Nat) : loadV P h t b o = (seqO ((List.range' o (k + 1)).map (cellAt h b))).map .agg := by
  unfold loadV; rw [ht, hk, row_seqO]
  cases seqO _ <;> rfl
end
end Go.AX

namespace Go.AX
noncomputable section
open Go.RowKit
section
variable {P : Program} {tm : T AV} {h : H}
theorem bb_tt : (true == true) = true := id rfl
theorem bb_tf : (true == false) = false := id rfl
theorem bb_ft : (false == true) = false := id rfl
theorem bb_ff : (false == false) = true := id rfl
theorem ofVal_lit (k : IntKind) (n : Nat) : ofVal (.int k (no_index (@OfNat.ofNat Int n instOfNat))) = some (.int k (Int.ofNat (@OfNat.ofNat Nat n (instOfNatNat n)))) := id rfl
theorem ofVal_negSucc (k : IntKind) (n : Nat) : ofVal (.int k (Int.negSucc n)) = some (.int k (Int.negSucc n)) := id rfl
theorem ofVal_neg (k : IntKind) (n : Nat) : ofVal (.int k (-(no_index (@OfNat.ofNat Int n instOfNat)))) = some (.int k (-(Int.ofNat (@OfNat.ofNat Nat n (instOfNatNat n))))) := id rfl
theorem ofVal_bool (b : Bool) : ofVal (.bool b) = some (.bool b) := id rfl
theorem ofVal_str (s : ByteArray) : ofVal (.string s) = some (.str (bytesOf s)) := id rfl
theorem ofVal_nilptr : ofVal (.pointer none) = some .nilptr := id rfl
theorem ofVal_nilslice : ofVal (.slice none 0 0) = some .nilslice := id rfl
theorem ofVal_nilmap : ofVal (.map none) = some .nilmap := id rfl
theorem ofVal_nilFunc : ofVal .nilFunc = some .nilFunc := id rfl
theorem ofVal_nilIface : ofVal .nilIface = some .nilIface := id rfl
def orUnd : Option AV → Option AV
  | some v => some v
  | none => some und
theorem orUnd_some (v : AV) : orUnd (some v) = some v := id rfl
def ob (x : Option AV) (k : AV → R) : R :=
  match x with
  | some v => k v
  | none => .fail
theorem ob_some (v : AV) (k : AV → R) : ob (some v) k = k v := id rfl
def obs (x : Option (List AV)) (k : List AV → R) : R :=
  match x with
  | some v => k v
  | none => .fail
theorem obs_some (v : List AV) (k : List AV → R) : obs (some v) k = k v := id rfl
def obp (x : Option (List (Nat × AV))) (k : List (Nat × AV) → R) : R :=
  match x with
  | some v => k v
  | none => .fail
theorem obp_some (v : List (Nat × AV)) (k : List (Nat × AV) → R) : obp (some v) k = k v := id rfl
def obo (x : Option (Option AV)) (k : Option AV → R) : R :=
  match x with
  | some v => k v
  | none => .fail
theorem obo_some (v : Option AV) (k : Option AV → R) : obo (some v) k = k v := id rfl
def obh (x : Option H) : R :=
  match x with
  | some h => .skip h
  | none => .fail
theorem obh_some (h : H) : obh (some h) = .skip h := id rfl
def consO (x : Option AV) (l : Option (List AV)) : Option (List AV) :=
  match x with
  | none => none
  | some v => match l with
    | none => none
    | some vs => some (v :: vs)
theorem consO_some (v : AV) (l : List AV) : consO (some v) (some l) = some (v :: l) := id rfl
def consP (i : Nat) (x : Option AV) (l : Option (List (Nat × AV))) : Option (List (Nat × AV)) :=
  match x with
  | none => none
  | some v => match l with
    | none => none
    | some vs => some ((i, v) :: vs)
theorem consP_some (i : Nat) (v : AV) (l : List (Nat × AV)) : consP i (some v) (some l) = some ((i, v) :: l) := id rfl
def mapO (x : Option AV) : Option (Option AV) :=
  match x with
  | none => none
  | some v => some (some v)
theorem mapO_some (v : AV) : mapO (some v) = some (some v) := id rfl
theorem evalA_tmp (t : Tmp) : evalA tm (.tmp t) = orUnd (tm.get t) := by show (match tm.get t with | some v => some v | none => some und) = _; cases tm.get t <;> rfl
theorem evalA_const (v : Value) : evalA tm (.const v) = ofVal v := id rfl
theorem evalA_func (f : FuncId) : evalA tm (.func f) = some (.func f [] []) := id rfl
theorem evalG_tmp (t : Tmp) : evalG tm h (.tmp t) = orUnd (tm.get t) := evalA_tmp t
theorem evalG_const (v : Value) : evalG tm h (.const v) = ofVal v := id rfl
theorem evalsA_nil : evalsA tm [] = some [] := id rfl
theorem evalsA_cons (x : Operand) (l : List Operand) : evalsA tm (x :: l) = consO (evalA tm x) (evalsA tm l) := id rfl
theorem evalP_nil : evalP tm [] = some [] := id rfl
theorem evalP_cons (i : Nat) (x : Operand) (l : List (Nat × Operand)) : evalP tm ((i, x) :: l) = consP i (evalA tm x) (evalP tm l) := id rfl
theorem evalO_none : evalO tm none = some none := id rfl
theorem evalO_some (x : Operand) : evalO tm (some x) = mapO (evalA tm x) := id rfl
def pickR2 (c : AV) (a b : R) : R :=
  match c with
  | .bool true => a
  | .bool false => b
  | _ => .fail
theorem pick_true (a b : R) : pickR2 (.bool true) a b = a := id rfl
theorem pick_false (a b : R) : pickR2 (.bool false) a b = b := id rfl
theorem ex_move (x : Operand) : execA P tm h (.move x) = ob (evalA tm x) fun v => .val v h := by unfold execA optV ob; rfl
theorem ex_assign (x : Operand) : execA P tm h (.assign x) = ob (evalA tm x) fun v => .val v h := by unfold execA optV ob; rfl
theorem ex_pick (c a b : Operand) : execA P tm h (.pick c a b) = ob (evalA tm c) fun c => pickR2 c (ob (evalA tm a) fun v => .val v h) (ob (evalA tm b) fun v => .val v h) := by
  simp only [execA]
  cases evalA tm c with
  | none => rfl
  | some c => cases c with
    | bool t => cases t <;> rfl
    | _ => rfl
theorem ex_alloc (t : TypeId) : execA P tm h (.alloc t) = ob (zeroA P t) fun z => .val (.ptr h.nx 0) (h.newCells t z.cells) := by unfold execA ob; rfl
def boxR (h : H) (t : TypeId) (l : List AV) : R :=
  match allOne l with
  | true => .val (.ptr h.nx 0) (h.newCells t l)
  | false => .fail
theorem boxR_ok {t : TypeId} {l : List AV} (ho : allOne l = true) : boxR h t l = .val (.ptr h.nx 0) (h.newCells t l) := by unfold boxR; rw [ho]
theorem ex_box (t : TypeId) (x : Operand) : execA P tm h (.box t x) = ob (evalA tm x) fun v => boxR h t v.cells := by unfold execA ob boxR; rfl
theorem ex_build (t : TypeId) (parts : Array (Nat × Operand)) : execA P tm h (.build t parts) = obp (evalP tm parts.toList) fun l => ob (buildA P t l) fun v => .val v h := by unfold execA obp ob optV; rfl
theorem ex_buildSlice (t : TypeId) (n : Nat) (parts : Array (Nat × Operand)) : execA P tm h (.buildSlice t n parts) = obp (evalP tm parts.toList) fun l => buildSliceA P t n l h := by unfold execA obp; rfl
def ptrR (v : AV) (k : Nat → Nat → R) : R :=
  match v with
  | .ptr b o => k b o
  | _ => .fail
theorem ptrR_ptr (b o : Nat) (k : Nat → Nat → R) : ptrR (.ptr b o) k = k b o := id rfl
theorem ex_load {t : TypeId} (ht : okT P t = true) (x : Operand) : execA P tm h (.load t x) = ob (evalG tm h x) fun v => ptrR v fun b o => ob (loadV P h t b o) fun v => .val v h := by
  simp only [execA, ht]
  cases evalG tm h x with
  | none => rfl
  | some v => cases v <;> rfl
theorem ex_store {t : TypeId} (ht : okT P t = true) (x y : Operand) : execA P tm h (.store t x y) = ob (evalA tm x) fun v => ob (evalA tm y) fun w => ptrR v fun b o => obh (storeV P h t b o w) := by
  simp only [execA, ht]
  cases evalA tm x with
  | none => cases evalA tm y <;> rfl
  | some v => cases evalA tm y with
    | none => cases v <;> rfl
    | some w => cases v <;> rfl
def nilR (h : H) (v : AV) : R :=
  match v with
  | .nilptr => .fail
  | .nilIface => .fail
  | .nilFunc => .fail
  | v => .val v h
theorem nilR_ptr (b o : Nat) : nilR h (.ptr b o) = .val (.ptr b o) h := id rfl
theorem nilR_func (f : FuncId) (a c : List AV) : nilR h (.func f a c) = .val (.func f a c) h := id rfl
theorem ex_nilCheck (x : Operand) : execA P tm h (.nilCheck x) = ob (evalA tm x) fun v => nilR h v := by
  simp only [execA]
  cases evalA tm x with
  | none => rfl
  | some v => cases v <;> rfl
def binR (P : Program) (h : H) (op : BinOp) (t : TypeId) (x y : Operand) (a b : AV) : R :=
  match apartA h a b with
  | true => apartV P op t h
  | false => optV h (binA P op t x y a b)
theorem ex_binOp (op : BinOp) (t u : TypeId) (x y : Operand) : execA P tm h (.binOp op t x y u) = ob (evalA tm x) fun a => ob (evalA tm y) fun b => binR P h op t x y a b := by
  simp only [execA]
  cases evalA tm x with
  | none => cases evalA tm y <;> rfl
  | some v => cases evalA tm y <;> rfl
def notR (h : H) (v : AV) : R :=
  match v with
  | .bool b => .val (.bool !b) h
  | _ => .fail
theorem notR_bool (b : Bool) : notR h (.bool b) = .val (.bool !b) h := id rfl
theorem ex_unNot (t : TypeId) (x : Operand) : execA P tm h (.unOp .not t x) = ob (evalA tm x) fun v => notR h v := by
  simp only [execA]
  cases evalA tm x with
  | none => rfl
  | some v => cases v <;> rfl
def funcR (f : FuncId) (a c : Option (List AV)) (k : AV → R) : R :=
  match a, c with
  | some a, some c => k (.func f a c)
  | _, _ => .fail
theorem funcR_some (f : FuncId) (a c : List AV) (k : AV → R) : funcR f (some a) (some c) k = k (.func f a c) := id rfl
theorem ex_makeFunc (f : FuncId) (first cap : Array Operand) : execA P tm h (.makeFunc (.func f) first cap) = funcR f (evalsA tm first.toList) (evalsA tm cap.toList) fun v => .val v h := by
  simp only [execA, funcR]
  cases evalsA tm first.toList with
  | none => cases evalsA tm cap.toList <;> rfl
  | some a => cases evalsA tm cap.toList <;> rfl
theorem ex_fieldAddr (t : TypeId) (x : Operand) (i : Nat) : execA P tm h (.fieldAddr t x i) = ob (evalG tm h x) fun v => ob (fieldAddrA P t v i) fun v => .val v h := by unfold execA ob optV; rfl
theorem ex_field (t : TypeId) (x : Operand) (i : Nat) : execA P tm h (.field t x i) = ob (evalA tm x) fun v => ob (fieldA P t v i) fun v => .val v h := by unfold execA ob optV; rfl
theorem ex_indexAddr (t : TypeId) (x i : Operand) : execA P tm h (.indexAddr t x i) = ob (evalG tm h x) fun v => ob (evalA tm i) fun j => ob (indexAddrA P t v j) fun v => .val v h := by
  simp only [execA]
  cases evalG tm h x with
  | none => cases evalA tm i <;> rfl
  | some v => cases evalA tm i <;> rfl
theorem ex_index (t : TypeId) (x i : Operand) : execA P tm h (.index t x i) = ob (evalA tm x) fun v => ob (evalA tm i) fun j => ob (indexA P t v j) fun v => .val v h := by
  simp only [execA]
  cases evalA tm x with
  | none => cases evalA tm i <;> rfl
  | some v => cases evalA tm i <;> rfl
def tupR (i : Nat) (v : AV) (k : AV → R) : R :=
  match v with
  | .tuple vs => ob vs[i]? k
  | _ => .fail
theorem tupR_tuple (i : Nat) (vs : List AV) (k : AV → R) : tupR i (.tuple vs) k = ob vs[i]? k := id rfl
theorem ex_extract (x : Operand) (i : Nat) : execA P tm h (.extract x i) = ob (evalA tm x) fun v => tupR i v fun v => .val v h := by
  simp only [execA]
  cases evalA tm x with
  | none => rfl
  | some v => cases v <;> rfl
theorem ex_call (f : Operand) (args : Array Operand) (ats : Array TypeId) : execA P tm h (.call ⟨.value f, args, ats⟩) = obs (evalsA tm args.toList) fun vs => ob (evalA tm f) fun fv => callV P fv vs h := by
  simp only [execA]
  cases evalsA tm args.toList with
  | none => rfl
  | some vs => cases evalA tm f <;> rfl
theorem ex_builtin (b : Builtin) (args : Array Operand) (ats : Array TypeId) : execA P tm h (.call ⟨.builtin b, args, ats⟩) = obs (evalsA tm args.toList) fun vs => builtinA P b ats.toList vs h := by
  simp only [execA]
  cases evalsA tm args.toList <;> rfl
theorem callV_func (f : FuncId) (hf : enterOk P f = true) (first cap args : List AV) : callV P (.func f first cap) args h = .enter f (first ++ args ++ cap) h := by
  simp only [callV, hf]
theorem callV_yield (l : Nat) (args : List AV) : callV P (.yield l) args h = .round l args h := id rfl
section
variable {t e : TypeId} {x y : Operand}
theorem eqB_self (k : IntKind) : IntKind.eqB k k = true := by cases k <;> rfl
theorem b_eql (k : IntKind) (m n : Int) : binR P h .eql t x y (.int k m) (.int k n) = .val (.bool (m == n)) h := by simp only [binR, apartA, binA, eqB_self, intB, optV]
theorem b_neq (k : IntKind) (m n : Int) : binR P h .neq t x y (.int k m) (.int k n) = .val (.bool (m != n)) h := by simp only [binR, apartA, binA, eqB_self, intB, optV]
theorem b_lss (k : IntKind) (m n : Int) : binR P h .lss t x y (.int k m) (.int k n) = .val (.bool (decide (m < n))) h := by simp only [binR, apartA, binA, eqB_self, intB, optV]
theorem b_leq (k : IntKind) (m n : Int) : binR P h .leq t x y (.int k m) (.int k n) = .val (.bool (decide (m ≤ n))) h := by simp only [binR, apartA, binA, eqB_self, intB, optV]
theorem b_gtr (k : IntKind) (m n : Int) : binR P h .gtr t x y (.int k m) (.int k n) = .val (.bool (decide (n < m))) h := by simp only [binR, apartA, binA, eqB_self, intB, optV, gt_iff_lt]
theorem b_geq (k : IntKind) (m n : Int) : binR P h .geq t x y (.int k m) (.int k n) = .val (.bool (decide (n ≤ m))) h := by simp only [binR, apartA, binA, eqB_self, intB, optV, ge_iff_le]
theorem b_add (k : IntKind) (m n : Int) : binR P h .add t x y (.int k m) (.int k n) = .val (.int k (wrapF k (m + n))) h := by simp only [binR, apartA, binA, eqB_self, intB, optV, forceInt_eq]
theorem b_sub (k : IntKind) (m n : Int) : binR P h .sub t x y (.int k m) (.int k n) = .val (.int k (wrapF k (m - n))) h := by simp only [binR, apartA, binA, eqB_self, intB, optV, forceInt_eq]
theorem b_mul (k : IntKind) (m n : Int) : binR P h .mul t x y (.int k m) (.int k n) = .val (.int k (wrapF k (m * n))) h := by simp only [binR, apartA, binA, eqB_self, intB, optV, forceInt_eq]
theorem b_rem (k : IntKind) (m n : Int) (hn : (n == 0) = false) : binR P h .rem t x y (.int k m) (.int k n) = .val (.int k (m.tmod n)) h := by simp only [binR, apartA, binA, eqB_self, intB, optV, forceInt_eq, hn]; rfl
theorem b_eqlB (hu : P.underlying t = some .bool) (a b : Bool) : binR P h .eql t x y (.bool a) (.bool b) = .val (.bool (a == b)) h := by
  simp only [binR, apartA, binA, guardEq, eqA, hu, optV]
theorem b_neqB (hu : P.underlying t = some .bool) (a b : Bool) : binR P h .neq t x y (.bool a) (.bool b) = .val (.bool (!(a == b))) h := by
  simp only [binR, apartA, binA, guardEq, eqA, hu, optV]
theorem b_eqlPn (hu : P.underlying t = some (.pointer e)) (b o : Nat) : binR P h .eql t x y (.ptr b o) .nilptr = .val (.bool false) h := by
  simp only [binR, apartA, binA, guardEq, eqA, hu, optV]
end
def dstL : List Oper → Nat → Option Tmp
  | [], _ => none
  | o :: _, 0 => o.dst
  | _ :: l, j + 1 => dstL l j
theorem dstL_zero (d : Option Tmp) (o : Op) (t : TypeId) (pos : String) (a : Array Edge) (g : Option (Nat × Bool)) (l : List Oper) : dstL ({ dst := d, op := o, type := t, pos := pos, after := a, guard := g } :: l) 0 = d := id rfl
theorem dstL_succ (o : Oper) (l : List Oper) (j : Nat) : dstL (o :: l) (j + 1) = dstL l j := id rfl
theorem dstOf_dstL (ops : Array Oper) (j : Nat) : dstOf ops j = dstL ops.toList j := by
  unfold dstOf
  generalize ops.toList = l
  induction l generalizing j with
  | nil => rfl
  | cons o l ih => cases j with
    | zero => rfl
    | succ j => rw [dstL_succ, ← ih j, List.getElem?_cons_succ]
def gB (x : Option AV) (w : Bool) : Option Bool :=
  match x with
  | some (.bool b) => some (b == w)
  | some (.tuple []) => some false
  | _ => none
theorem gB_und (w : Bool) : gB (some und) w = some false := id rfl
theorem gB_bool (b w : Bool) : gB (some (.bool b)) w = some (b == w) := id rfl
def gD (d : Option Tmp) (tm : T AV) (w : Bool) : Option Bool :=
  match d with
  | some d => gB (tm.get d) w
  | none => none
theorem gD_some (d : Tmp) (w : Bool) : gD (some d) tm w = gB (tm.get d) w := id rfl
theorem guardV_eq (ops : Array Oper) (j : Nat) (w : Bool) : guardV tm ops (j, w) = gD (dstL ops.toList j) tm w := by
  unfold guardV
  simp only [dstOf_dstL]
  cases dstL ops.toList j with
  | none => rfl
  | some d => rfl
theorem lenGe_cons {α : Type} (n : Nat) (x : α) (l : List α) : lenGe (n + 1) (x :: l) = lenGe n l := id rfl
theorem lenGe_nil {α : Type} (n : Nat) : lenGe (n + 1) ([] : List α) = false := id rfl
theorem storeV_one {t : TypeId} (hk : P.cellsOf t = 1) {v : AV} (hv : v.cells = [v]) (b o : Nat) : storeV P h t b o v = h.put b o [v] := by
  unfold storeV; rw [hv, hk]; rfl
theorem storeV_agg {t : TypeId} {k : Nat} (hk : P.cellsOf t = k) {l : List AV} (hl : l.length = k) (b o : Nat) : storeV P h t b o (.agg l) = h.put b o l := by
  unfold storeV
  have e : (AV.agg l).cells = l := rfl
  rw [e, hk, hl, Nat.beq_refl]
theorem indexAddr_slice {t e : TypeId} {k : Nat} (hu : P.underlying t = some (.slice e)) (he : okT P e = true) (hk : P.cellsOf e = k) (b o len : Nat) (cap : Cap) (kd : IntKind) (i : Nat) :
    indexAddrA P t (.slice b o len cap) (.int kd (.ofNat i)) = if i < len then some (.ptr b (o + i * k)) else none := by
  simp only [indexAddrA, hu, he, hk, Bool.and_true]
  by_cases q : i < len
  · rw [if_pos q, show Nat.blt i len = true by rw [Nat.blt_eq]; exact q]
  · rw [if_neg q, show Nat.blt i len = false by rw [← Bool.not_eq_true, Nat.blt_eq]; exact q]
theorem len_slice {t e : TypeId} (hu : P.underlying t = some (.slice e)) (b o len : Nat) (cap : Cap) : lenA P t (.slice b o len cap) h = some len := by simp only [lenA, hu]
theorem len_nil {t e : TypeId} (hu : P.underlying t = some (.slice e)) : lenA P t .nilslice h = some 0 := by simp only [lenA, hu]
theorem len_0 {t e : TypeId} (hu : P.underlying t = some (.slice e)) : lenA P t .slice0 h = some 0 := by simp only [lenA, hu]
theorem len_str {t : TypeId} (hu : P.underlying t = some .string) (s : List Nat) : lenA P t (.str s) h = some s.length := by simp only [lenA, hu, lenL_eq]
theorem lt_nat (a b : Nat) : decide (Int.ofNat a < Int.ofNat b) = decide (a < b) := by simp
theorem le_nat (a b : Nat) : decide (Int.ofNat a ≤ Int.ofNat b) = decide (a ≤ b) := by simp
theorem eq_nat (a b : Nat) : (Int.ofNat a == Int.ofNat b) = decide (a = b) := by
  by_cases e : a = b
  · subst e; simp
  · have : ¬ Int.ofNat a = Int.ofNat b := fun q => e (Int.ofNat.inj q)
    rw [decide_eq_false e]; exact beq_eq_false_iff_ne.2 this
theorem ne_nat (a b : Nat) : (Int.ofNat a != Int.ofNat b) = !decide (a = b) := by
  show (!(Int.ofNat a == Int.ofNat b)) = _
  rw [eq_nat]
theorem u64_add {a b : Nat} (hs : a + b < 18446744073709551616) : wrapF .u64 (Int.ofNat a + Int.ofNat b) = Int.ofNat (a + b) := by
  show (((a : Nat) : Int) + ((b : Nat) : Int)) % 18446744073709551616 = ((a + b : Nat) : Int)
  omega
theorem i64_add {a b : Nat} (hs : a + b < 9223372036854775808) : wrapF .i64 (Int.ofNat a + Int.ofNat b) = Int.ofNat (a + b) := by
  have e : Int.emod (Int.ofNat a + Int.ofNat b) 18446744073709551616 = Int.ofNat (a + b) := by
    show (((a : Nat) : Int) + ((b : Nat) : Int)) % 18446744073709551616 = ((a + b : Nat) : Int)
    omega
  simp only [wrapF, e]
  rw [if_pos]
  show ((a + b : Nat) : Int) < 9223372036854775808
  omega
theorem i64_sub {a b : Nat} (hb : b ≤ a) (ha : a < 9223372036854775808) : wrapF .i64 (Int.ofNat a - Int.ofNat b) = Int.ofNat (a - b) := by
  have e : Int.emod (Int.ofNat a - Int.ofNat b) 18446744073709551616 = Int.ofNat (a - b) := by
    show (((a : Nat) : Int) - ((b : Nat) : Int)) % 18446744073709551616 = ((a - b : Nat) : Int)
    omega
  simp only [wrapF, e]
  rw [if_pos]
  show ((a - b : Nat) : Int) < 9223372036854775808
  omega
theorem tmod_nat (a b : Nat) : Int.tmod (Int.ofNat a) (Int.ofNat b) = Int.ofNat (a % b) := id rfl
theorem tdiv_nat (a b : Nat) : Int.tdiv (Int.ofNat a) (Int.ofNat b) = Int.ofNat (a / b) := id rfl
theorem cells_bool (b : Bool) : AV.cells (.bool b) = [.bool b] := id rfl
theorem one_bool (b : Bool) : AV.one (.bool b) = true := id rfl
theorem cells_int (k : IntKind) (n : Int) : AV.cells (.int k n) = [.int k n] := id rfl
theorem one_int (k : IntKind) (n : Int) : AV.one (.int k n) = true := id rfl
theorem cells_str (s : List Nat) : AV.cells (.str s) = [.str s] := id rfl
theorem one_str (s : List Nat) : AV.one (.str s) = true := id rfl
theorem cells_nilptr  : AV.cells (.nilptr) = [.nilptr] := id rfl
theorem one_nilptr  : AV.one (.nilptr) = true := id rfl
theorem cells_ptr (b o : Nat) : AV.cells (.ptr b o) = [.ptr b o] := id rfl
theorem one_ptr (b o : Nat) : AV.one (.ptr b o) = true := id rfl
theorem cells_nilslice  : AV.cells (.nilslice) = [.nilslice] := id rfl
theorem one_nilslice  : AV.one (.nilslice) = true := id rfl
theorem cells_slice0  : AV.cells (.slice0) = [.slice0] := id rfl
theorem one_slice0  : AV.one (.slice0) = true := id rfl
theorem cells_slice (b o l : Nat) (c : Cap) : AV.cells (.slice b o l c) = [.slice b o l c] := id rfl
theorem one_slice (b o l : Nat) (c : Cap) : AV.one (.slice b o l c) = true := id rfl
theorem cells_nilmap  : AV.cells (.nilmap) = [.nilmap] := id rfl
theorem one_nilmap  : AV.one (.nilmap) = true := id rfl
theorem cells_map (b : Nat) : AV.cells (.map b) = [.map b] := id rfl
theorem one_map (b : Nat) : AV.one (.map b) = true := id rfl
theorem cells_func (f : FuncId) (a c : List AV) : AV.cells (.func f a c) = [.func f a c] := id rfl
theorem one_func (f : FuncId) (a c : List AV) : AV.one (.func f a c) = true := id rfl
theorem cells_yield (l : Nat) : AV.cells (.yield l) = [.yield l] := id rfl
theorem one_yield (l : Nat) : AV.one (.yield l) = true := id rfl
theorem cells_nilFunc  : AV.cells (.nilFunc) = [.nilFunc] := id rfl
theorem one_nilFunc  : AV.one (.nilFunc) = true := id rfl
theorem cells_iface (t : TypeId) (v : AV) : AV.cells (.iface t v) = [.iface t v] := id rfl
theorem one_iface (t : TypeId) (v : AV) : AV.one (.iface t v) = true := id rfl
theorem cells_nilIface  : AV.cells (.nilIface) = [.nilIface] := id rfl
theorem one_nilIface  : AV.one (.nilIface) = true := id rfl
theorem cells_agg (l : List AV) : AV.cells (.agg l) = l := id rfl
def oneV : List AV → AV
  | [v] => v
  | vs => .tuple vs
def retW (P : Program) (l : List ResultVar) (tm : T AV) (h : H) (Q : AV → H → Prop) : Prop :=
  match evalRes P tm h l with
  | some vs => Q (oneV vs) h
  | none => False
theorem retW_intro {fn : Func} {l : List ResultVar} (hl : fn.results.toList = l) {Q : AV → H → Prop} (hw : retW P l tm h Q) : retK P fn Q .ret [] tm h := by
  unfold retW at hw
  split at hw
  · rename_i vs hv
    refine ⟨h, rfl, oneV vs, ?_, hw⟩
    unfold resA; rw [hl, hv]
    cases vs with
    | nil => rfl
    | cons v vs => cases vs <;> rfl
  · exact absurd hw id
theorem evalRes_nil : evalRes P tm h [] = some [] := id rfl
def consR (x : Option AV) (l : Option (List AV)) : Option (List AV) :=
  match l with
  | some vs => some (x.getD und :: vs)
  | none => none
theorem consR_some (v : AV) (l : List AV) : consR (some v) (some l) = some (v :: l) := id rfl
theorem evalRes_tmp (t : Tmp) (l : List ResultVar) : evalRes P tm h (.tmp t :: l) = consR (tm.get t) (evalRes P tm h l) := id rfl
theorem oneV_one (v : AV) : oneV [v] = v := id rfl
theorem oneV_two (v w : AV) (l : List AV) : oneV (v :: w :: l) = .tuple (v :: w :: l) := id rfl
def qW (x : Option (List AV)) (h : H) (Q : AV → H → Prop) : Prop :=
  match x with
  | some vs => Q (oneV vs) h
  | none => False
theorem qW_some (vs : List AV) (Q : AV → H → Prop) : qW (some vs) h Q = Q (oneV vs) h := id rfl
theorem retW_eq (l : List ResultVar) (Q : AV → H → Prop) : retW P l tm h Q = qW (evalRes P tm h l) h Q := id rfl
theorem n_eq_add (n k : Nat) : (n = n + k) = (k = 0) := by simp
theorem add_eq_n (n k : Nat) : (n + k = n) = (k = 0) := by simp
theorem add_eq_add (n a b : Nat) : (n + a = n + b) = (a = b) := by simp
theorem bool_eq_self (b : Bool) : (b == b) = true := by cases b <;> rfl
def Only (h h' : H) (S : List Nat) : Prop := h.nx ≤ h'.nx ∧ ∀ b, b < h.nx → b ∉ S → h'.t.get b = h.t.get b
theorem cellAt_of_get {h h' : H} {b : Nat} (e : h'.t.get b = h.t.get b) (o : Nat) : cellAt h' b o = cellAt h b o := by unfold cellAt; rw [e]
theorem wrAt_of_get {h h' : H} {b : Nat} (e : h'.t.get b = h.t.get b) : wrAt h' b = wrAt h b := by unfold wrAt; rw [e]
theorem Only.refl (h : H) (S : List Nat) : Only h h S := ⟨Nat.le_refl _, fun _ _ _ => rfl⟩
theorem Only.cell {h h' : H} {S : List Nat} (ho : Only h h' S) {b : Nat} (hb : b < h.nx) (hs : b ∉ S) (o : Nat) : cellAt h' b o = cellAt h b o := cellAt_of_get (ho.2 b hb hs) o
theorem Only.wr {h h' : H} {S : List Nat} (ho : Only h h' S) {b : Nat} (hb : b < h.nx) (hs : b ∉ S) : wrAt h' b = wrAt h b := wrAt_of_get (ho.2 b hb hs)
theorem Only.sts {h h' : H} {S : List Nat} (ho : Only h h' S) {b o : Nat} {l : List AV} (hb : b ∈ S ∨ h.nx ≤ b) : Only h (h'.sts b o l) S :=
  ⟨by rw [nx_sts]; exact ho.1, fun c hc hs => by
    rw [get_sts _ _ _ _ (fun e => by subst e; rcases hb with hb | hb <;> first | exact hs hb | omega)]
    exact ho.2 c hc hs⟩
theorem Only.new {h h' : H} {S : List Nat} (ho : Only h h' S) (t : TypeId) (l : List AV) : Only h (h'.newCells t l) S :=
  ⟨by rw [nx_new]; have := ho.1; omega, fun c hc hs => by rw [get_new _ _ _ (by have := ho.1; omega)]; exact ho.2 c hc hs⟩
end
end
end Go.AX

